import Derived.Test.YtjfkeknnjjlepaaGreatDoorK3
import Derived.Shelf.SlicesQ.IndexFunc
import Derived.Ground.SlgfProg
import Derived.Shelf.SlSortCmp.NoneTotal
import Derived.Ground.SlsfProg
import Derived.Test.YtjfkeknnjjlepaaGreatDoorProg
import Derived.Lib.SliceRun
import Derived.Shelf.Strings.Builder1
import Derived.Shelf.Strings.Builder2
import Derived.Shelf.Strings.OnBuilder
import Derived.Shelf.Strings.Trim
import Derived.Shelf.Small.Utf8
import Derived.Shelf.Small.Bits
import Derived.Shelf.Small.Strs
import Derived.Shelf.Strings.BuilderF
import Derived.Shelf.Strings.BuilderK
import Derived.Shelf.Utf8.RuneCount
import Derived.Shelf.Strings.Builder2Cap
import Derived.Shelf.Strconv.Atoi
import Derived.Shelf.Strconv.Itoa0
import Derived.Shelf.Strconv.Itoa1
import Derived.Shelf.LaysM
import Derived.Shelf.Strconv.Itoa2
import Derived.Shelf.Strconv.Itoa3
import Derived.Shelf.Strconv.AtoiErrFast
import Derived.Shelf.Strconv.ParseIntEmpty
import Derived.Shelf.Strconv.AtoiFail
import Derived.Shelf.Strconv.Clone
import Derived.Shelf.Strconv.SyntaxError
import Derived.Shelf.LaysC
import Derived.Shelf.Strconv.ToError
import Derived.Shelf.Strconv.Lower
import Derived.Shelf.Strconv.ParseUint10
import Derived.Shelf.Strconv.ParseUint10Empty
import Derived.Shelf.Strconv.ParseUint10Any
import Derived.Shelf.Strconv.ParseInt10
import Derived.Shelf.Strconv.AtoiLong
import Derived.Shelf.Strconv.AtoiInnerAll
import Derived.Shelf.Strconv.RangeError
import Derived.Shelf.Strconv.ToErrorRange
import Derived.Shelf.Strconv.AtoiAll
import Derived.Shelf.Strconv.ParseUintEmpty
import Derived.Shelf.Strconv.ParseUint10b64
import Derived.Shelf.Strconv.ParseUint10b32
import Derived.Shelf.Strconv.ParseUint10b16
import Derived.Shelf.Strconv.ParseUint10b8
import Derived.Shelf.Strings.Search1
import Derived.Shelf.Strings.Search2
import Derived.Shelf.Strings.Search3
import Derived.Shelf.Strings.Cut
import Derived.Shelf.Strings.Count
import Derived.Shelf.Strings.Shaped
import Derived.Shelf.Strings.Prefix
import Derived.Shelf.Strings.Split
import Derived.Shelf.Strings.SplitShaped
import Derived.Shelf.Unicode.Decode
import Derived.Shelf.Strings.Runes
import Derived.Shelf.Strings.RuneCount
import Derived.Shelf.Strings.AsciiSet
import Derived.Shelf.Strings.Explode
import Derived.Shelf.Unicode.DecodeSlow
import Derived.Shelf.Unicode.DecodeAny
import Derived.Shelf.Unicode.DecodeLast
import Derived.Shelf.Strings.BuilderCap
import Derived.Shelf.Slices.Turned
import Derived.Sort.Grow
import Derived.Shelf.Strings.SlTrimAscii
import Derived.Sort.LotA
import Derived.Laws.Cover1
import Derived.Lib.AtoiAll
import Derived.Lib.AtoiAllCases
import Derived.Lib.AtoiErrMem
import Derived.Lib.SplitLaws
import Derived.Lib.ItoaLen
import Derived.Lib.ItoaMem
import Derived.Lib.SlTrimSet

section
/-
  DERIVED: THE SHELF's CONTRACTS AT THIS DUMP, IN PLAIN WORDS (tools/lay-plain.mjs out of 'TryzEShelf.lean', which tools/lay-shelf.mjs wrote): THE SAME DECLARATIONS UNDER THE SAME NAMES: 'import', 'namespace', 'open', 'def', 'theorem' AND NOTHING ELSE: no command of the shelf's: FOR A HAND-IN. Each laying: the table of numbers ('.._ren') and one theorem, a field a fact of the dump's own or the kernel's comparison; each contract: ONE APPLICATION.
-/
namespace Go.Proofs
open Go.Shelf
def Tryz.laysIdx_ren : Go.Shelf.Ren := ⟨fun | 6 => 205 | n => n, fun | 22 => 23 | 23 => 116 | 25 => 152 | 3 => 3 | 0 => 0 | 4 => 4 | n => n, fun | n => n⟩
theorem Tryz.laysIdx : Go.Proofs.SlLaysH0.n6 Tryz.prog Tryz.laysIdx_ren := {
  mixed := by kernel_rfl
  f6 := ⟨Tryz.f205.name, by decide, Tryz.func205.trans (congrArg some (by kernel_rfl))⟩
  t0 := Tryz.underlying0
  a0 := Tryz.isAgg0
  z0 := Tryz.sizeOf0
  v0 := Tryz.zeroValue0
  t3 := Tryz.underlying3
  a3 := Tryz.isAgg3
  z3 := Tryz.sizeOf3
  v3 := Tryz.zeroValue3
  t4 := Tryz.underlying4
  a4 := Tryz.isAgg4
  z4 := Tryz.sizeOf4
  v4 := Tryz.zeroValue4
  t22 := Tryz.underlying23
  a22 := Tryz.isAgg23
  z22 := Tryz.sizeOf23
  v22 := Tryz.zeroValue23
  t25 := Tryz.underlying152
  a25 := Tryz.isAgg152
  z25 := Tryz.sizeOf152
  v25 := Tryz.zeroValue152 }
def Tryz.laysSort_ren : Go.Shelf.Ren := ⟨fun | 6 => 215 | 15 => 258 | 14 => 257 | 28 => 289 | 29 => 290 | 20 => 281 | 21 => 282 | 22 => 283 | 23 => 284 | 24 => 285 | 25 => 286 | 26 => 287 | 27 => 288 | 46 => 304 | 47 => 305 | 48 => 306 | 49 => 307 | 50 => 308 | 57 => 312 | n => n, fun | 22 => 23 | 24 => 116 | 25 => 204 | 3 => 3 | 39 => 196 | 0 => 0 | 53 => 192 | 55 => 194 | 4 => 4 | 46 => 260 | 45 => 259 | 50 => 153 | 5 => 5 | 9 => 9 | 66 => 282 | 70 => 286 | 76 => 289 | 77 => 290 | n => n, fun | n => n⟩
theorem Tryz.laysSort : Go.Proofs.SlLaysF0.n6 Tryz.prog Tryz.laysSort_ren := {
  mixed := by kernel_rfl
  f6 := ⟨Tryz.f215.name, by decide, Tryz.func215.trans (congrArg some (by kernel_rfl))⟩
  f14 := ⟨Tryz.f257.name, by decide, Tryz.func257.trans (congrArg some (by kernel_rfl))⟩
  f15 := Tryz.func258.trans (congrArg some (by kernel_rfl))
  f20 := ⟨Tryz.f281.name, by decide, Tryz.func281.trans (congrArg some (by kernel_rfl))⟩
  f21 := ⟨Tryz.f282.name, by decide, Tryz.func282.trans (congrArg some (by kernel_rfl))⟩
  f22 := ⟨Tryz.f283.name, by decide, Tryz.func283.trans (congrArg some (by kernel_rfl))⟩
  f23 := ⟨Tryz.f284.name, by decide, Tryz.func284.trans (congrArg some (by kernel_rfl))⟩
  f24 := ⟨Tryz.f285.name, by decide, Tryz.func285.trans (congrArg some (by kernel_rfl))⟩
  f25 := ⟨Tryz.f286.name, by decide, Tryz.func286.trans (congrArg some (by kernel_rfl))⟩
  f26 := ⟨Tryz.f287.name, by decide, Tryz.func287.trans (congrArg some (by kernel_rfl))⟩
  f27 := ⟨Tryz.f288.name, by decide, Tryz.func288.trans (congrArg some (by kernel_rfl))⟩
  f28 := Tryz.func289.trans (congrArg some (by kernel_rfl))
  f29 := Tryz.func290.trans (congrArg some (by kernel_rfl))
  f46 := ⟨Tryz.f304.name, by decide, Tryz.func304.trans (congrArg some (by kernel_rfl))⟩
  f47 := Tryz.func305.trans (congrArg some (by kernel_rfl))
  f48 := Tryz.func306.trans (congrArg some (by kernel_rfl))
  f49 := ⟨Tryz.f307.name, by decide, Tryz.func307.trans (congrArg some (by kernel_rfl))⟩
  f50 := ⟨Tryz.f308.name, by decide, Tryz.func308.trans (congrArg some (by kernel_rfl))⟩
  f57 := ⟨Tryz.f312.name, by decide, Tryz.func312.trans (congrArg some (by kernel_rfl))⟩
  t0 := Tryz.underlying0
  a0 := Tryz.isAgg0
  z0 := Tryz.sizeOf0
  v0 := Tryz.zeroValue0
  t3 := Tryz.underlying3
  a3 := Tryz.isAgg3
  z3 := Tryz.sizeOf3
  v3 := Tryz.zeroValue3
  t4 := Tryz.underlying4
  a4 := Tryz.isAgg4
  z4 := Tryz.sizeOf4
  v4 := Tryz.zeroValue4
  t5 := Tryz.underlying5
  a5 := Tryz.isAgg5
  z5 := Tryz.sizeOf5
  v5 := Tryz.zeroValue5
  t9 := Tryz.underlying9
  a9 := Tryz.isAgg9
  z9 := Tryz.sizeOf9
  v9 := Tryz.zeroValue9
  t22 := Tryz.underlying23
  a22 := Tryz.isAgg23
  z22 := Tryz.sizeOf23
  v22 := Tryz.zeroValue23
  t25 := Tryz.underlying204
  a25 := Tryz.isAgg204
  z25 := Tryz.sizeOf204
  v25 := Tryz.zeroValue204
  t39 := Tryz.underlying196
  a39 := Tryz.isAgg196
  z39 := Tryz.sizeOf196
  v39 := Tryz.zeroValue196
  t45 := Tryz.underlying259
  a45 := Tryz.isAgg259
  z45 := Tryz.sizeOf259
  v45 := Tryz.zeroValue259
  t46 := Tryz.underlying260
  a46 := Tryz.isAgg260
  z46 := Tryz.sizeOf260
  v46 := Tryz.zeroValue260
  t50 := Tryz.underlying153
  a50 := Tryz.isAgg153
  z50 := Tryz.sizeOf153
  v50 := Tryz.zeroValue153
  t53 := Tryz.underlying192
  a53 := Tryz.isAgg192
  z53 := Tryz.sizeOf192
  v53 := Tryz.zeroValue192
  t55 := Tryz.underlying194
  a55 := Tryz.isAgg194
  z55 := Tryz.sizeOf194
  v55 := Tryz.zeroValue194
  t66 := Tryz.underlying282
  a66 := Tryz.isAgg282
  z66 := Tryz.sizeOf282
  v66 := Tryz.zeroValue282
  t70 := Tryz.underlying286
  a70 := Tryz.isAgg286
  z70 := Tryz.sizeOf286
  v70 := Tryz.zeroValue286
  t76 := Tryz.underlying289
  a76 := Tryz.isAgg289
  z76 := Tryz.sizeOf289
  v76 := Tryz.zeroValue289
  t77 := Tryz.underlying290
  a77 := Tryz.isAgg290
  z77 := Tryz.sizeOf290
  v77 := Tryz.zeroValue290 }
end Go.Proofs
end

section
/- impl.entryAt, walked by hand: slices.IndexFunc with a closure that has captured a text. -/
namespace Go.Proofs.YtjfkeknnjjlepaaGreatDoor.Rf
open Go Go.RowKit
set_option linter.unusedVariables false
set_option linter.unusedSimpArgs false
def qyc (x : ByteArray × ByteArray) : List Value := [.string x.1, .string x.2]
theorem qo6 (s : ByteArray) (B : Nat) (w : World) (hB : B < w.heap.size) (hcell : w.cell? ⟨B, 0, none⟩ = some (.string s)) :
    PredBelow Tryz.prog 206 #[.pointer (some ⟨B, 0, none⟩)] (fun x => .agg (qyc x).toArray) (fun x => x.1.toList == s.toList) w := fun W x hb => by
  have hc : W.cell? ⟨B, 0, none⟩ = some (.string s) := (hb.cell (p := ⟨B, 0, none⟩) hB).trans hcell
  have hBW : B < W.heap.size := Nat.lt_of_lt_of_le hB hb.size
  have hne : B ≠ W.heap.size := by omega
  show Calls Tryz.prog 206 #[.agg #[.string x.1, .string x.2], .pointer (some ⟨B, 0, none⟩)] W _
  go_enter Tryz.func206, Tryz.ntmps206
  go_wp2
  go_ret
  exact ⟨rfl, hb.alloc hb.size _⟩
theorem index_empty (a : Option Addr) (c : Nat) (fv : Value) (w : World) :
    Calls Tryz.prog 205 #[.slice a 0 c, fv] w fun e w' => e = .returned (.int .i64 (-1)) ∧ w' = w := by
  go_enter Tryz.func205, Tryz.ntmps205
  go_wp2
  go_loopg [5, 8] 0 (fun _ _ s8 wr => s8 = .int .i64 0 ∧ wr = w)
  case atStart => exact ⟨rfl, rfl⟩
  case round =>
    obtain ⟨rfl, rfl⟩ := hrel
    go_wp2
    go_ret
    exact ⟨rfl, rfl⟩
instance instEn : Inhabited (ByteArray × ByteArray) := ⟨(ByteArray.empty, ByteArray.empty)⟩
def qui (l : List (ByteArray × ByteArray)) (s : ByteArray) : Int := Lib.idxBy (fun _ y => y.1.toList == s.toList) l default
set_option maxHeartbeats 4000000 in
theorem qi5 (A0 : Option Addr) (c0 : Nat) (l0 : List (ByteArray × ByteArray)) (a1 : ByteArray) (w : World) (hlen : l0.length ≤ 4611686018427387904)
    (hr : l0 = [] ∨ ∃ b off, A0 = some ⟨b, off, none⟩ ∧ b < w.heap.size ∧ ∀ j, j < l0.length → ∀ i v, (qyc l0[j]!)[i]? = some v → w.cell? ⟨b, off + j * 2 + i, none⟩ = some v) :
    Calls Tryz.prog 147 #[.slice A0 l0.length c0, .string a1] w fun e w' => e = .returned (.int .i64 (qui l0 a1)) ∧ Below w.heap.size w w' := by
  have hcon : Calls Tryz.prog 205 #[.slice A0 l0.length c0, .func (.func 206) #[] #[.pointer (some ⟨w.heap.size, 0, none⟩)]] (w.alloc (.cells #[.string a1] 9)) fun e w' => e = .returned (.int .i64 (qui l0 a1)) ∧ Below (w.alloc (.cells #[.string a1] 9)).heap.size (w.alloc (.cells #[.string a1] 9)) w' := by
    rcases hr with rfl | ⟨b, off, rfl, hb, hc⟩
    · exact (index_empty A0 c0 _ _).mono fun e w' ⟨he, hw⟩ => ⟨he, hw ▸ Below.refl _ _⟩
    · have eg : ∀ args w, (callFunc 206 args).run Tryz.prog w = .ok (.enter 206 args) w := enters_of Tryz.func206 (by kernel_rfl) rfl
      have h := AnyQ.slices_IndexFunc Tryz.laysIdx 2 Tryz.isAgg116 Tryz.sizeOf116 qyc (fun _ => rfl) (fun x => x.1.toList == a1.toList) 206 #[.pointer (some ⟨w.heap.size, 0, none⟩)] eg b off l0.length c0 l0 (w.alloc (.cells #[.string a1] 9))
        (qo6 a1 w.heap.size _ (by simp) (by simp)) (Nat.le_refl _) (by omega) (by simp; omega) (fun j hj i v hi => Lib.cell?_alloc_some _ (hc j hj i v hi))
      rw [List.take_length] at h
      exact h
  unfold qui at hcon ⊢
  generalize Lib.idxBy (fun _ y => y.1.toList == a1.toList) l0 default = r at hcon ⊢
  go_enter Tryz.func147, Tryz.ntmps147
  go_wp2_with (go_at_call 205; refine hcon.mono ?_; rintro e w' ⟨rfl, hb'⟩)
  go_ret
  exact ⟨rfl, ((Below.refl _ w).alloc (Nat.le_refl _) _).trans (hb'.mono (by simp))⟩
abbrev q3f.ps : List Par := [⟨.row (.st (.pair .str .str)), .rd⟩, ⟨.str, .rd⟩]
abbrev q3f.rs : List Res := [⟨.int .i64, .ro, false⟩]
def q3f.F (_ : Nat) (x : List (ByteArray × ByteArray) × ByteArray) : Option Int := if x.1.length ≤ 4611686018427387904 then some (qui x.1 x.2) else none
def q3f.f (k : Nat) (l : List (ByteArray × ByteArray)) (s : ByteArray) : Option Int := q3f.F k (l, s)
theorem q3f.can : Can Tryz.prog 147 := q9t (fn := Tryz.f147) (by kernel_rfl) (by kernel_rfl) (by kernel_rfl)
theorem q3f.snd (k : Nat) : Snd Tryz.prog Jp 147 ⟨q3f.ps, q3f.rs, q3f.F k⟩ := by
  refine qdv rfl ?_
  rintro ⟨l, s⟩ r hr ξ w vs wf _ hsz ha
  simp only [q3f.F] at hr
  split at hr
  case isFalse => cases hr
  rename_i hlen
  obtain rfl := Option.some.inj hr
  obtain ⟨T0, cs, h0, h1⟩ := ha 0 _ _ rfl rfl
  obtain ⟨T1, h2⟩ := ha 1 _ _ rfl rfl
  have h2 := q8k (by simp) h2
  obtain ⟨A, cap, rfl, k1, k2⟩ := h1.row_ro
  obtain rfl := qgv hsz h0 h2
  refine (qi5 A cap l s w hlen ?_).mono ?_
  · rcases Nat.eq_zero_or_pos l.length with h | h
    · exact .inl (List.eq_nil_of_length_eq_zero h)
    · obtain ⟨a, c, e1, e2, e3, e4, e5⟩ := k2 0 h
      obtain rfl := qi1 e5
      obtain ⟨b, off, sp⟩ := a
      simp only at e2 e4
      subst e2
      refine .inr ⟨b, off, e1, qbe (e4 0 _ rfl), fun j hj i v hi => ?_⟩
      obtain ⟨a', c', g1, g2, g3, g4, g5⟩ := k2 j hj
      rw [e1] at g1
      obtain rfl := Option.some.inj g1
      obtain rfl := qi1 g5
      rw [show l[j]! = l[j] from getElem!_pos l j hj] at hi
      exact g4 i v hi
  · rintro e w' ⟨he, hb⟩
    exact ⟨_, Em, he, hb, of_int _ _ _ _ _, fun b hb => hb.elim⟩
end Go.Proofs.YtjfkeknnjjlepaaGreatDoor.Rf
end

section
/-
  DERIVED: THE SHELF's CONTRACTS AT THIS DUMP, IN PLAIN WORDS (tools/lay-plain.mjs out of 'TryzShelf.lean', which tools/lay-shelf.mjs wrote): THE SAME DECLARATIONS UNDER THE SAME NAMES: 'import', 'namespace', 'open', 'def', 'theorem' AND NOTHING ELSE: no command of the shelf's: FOR A HAND-IN. Each laying: the table of numbers ('.._ren') and one theorem, a field a fact of the dump's own or the kernel's comparison; each contract: ONE APPLICATION.
-/
namespace Go.Proofs
open Go.Shelf
def Tryz.lays156_ren : Go.Shelf.Ren := ⟨fun | 156 => 209 | 165 => 249 | 166 => 250 | 169 => 251 | 240 => 279 | 241 => 280 | 276 => 302 | 277 => 303 | n => n, fun | 31 => 22 | 9 => 9 | 3 => 3 | 4 => 4 | 0 => 0 | 20 => 20 | 72 => 234 | 76 => 91 | 70 => 232 | 37 => 34 | 75 => 90 | 127 => 248 | 164 => 279 | 5 => 5 | 80 => 99 | n => n, fun | n => n⟩
theorem Tryz.lays156 : Go.Proofs.Lays.n156 Tryz.prog Tryz.lays156_ren := {
  mixed := by kernel_rfl
  f156 := Tryz.func209.trans (congrArg some (by kernel_rfl))
  f165 := Tryz.func249.trans (congrArg some (by kernel_rfl))
  f166 := Tryz.func250.trans (congrArg some (by kernel_rfl))
  f169 := Tryz.func251.trans (congrArg some (by kernel_rfl))
  f240 := Tryz.func279.trans (congrArg some (by kernel_rfl))
  f241 := Tryz.func280.trans (congrArg some (by kernel_rfl))
  f276 := Tryz.func302.trans (congrArg some (by kernel_rfl))
  f277 := Tryz.func303.trans (congrArg some (by kernel_rfl))
  t0 := Tryz.underlying0
  a0 := Tryz.isAgg0
  z0 := Tryz.sizeOf0
  v0 := Tryz.zeroValue0
  t3 := Tryz.underlying3
  a3 := Tryz.isAgg3
  z3 := Tryz.sizeOf3
  v3 := Tryz.zeroValue3
  t4 := Tryz.underlying4
  a4 := Tryz.isAgg4
  z4 := Tryz.sizeOf4
  v4 := Tryz.zeroValue4
  t9 := Tryz.underlying9
  a9 := Tryz.isAgg9
  z9 := Tryz.sizeOf9
  v9 := Tryz.zeroValue9
  t20 := Tryz.underlying20
  a20 := Tryz.isAgg20
  z20 := Tryz.sizeOf20
  v20 := Tryz.zeroValue20
  t31 := Tryz.underlying22
  a31 := Tryz.isAgg22
  z31 := Tryz.sizeOf22
  v31 := Tryz.zeroValue22
  t37 := Tryz.underlying34
  a37 := Tryz.isAgg34
  z37 := Tryz.sizeOf34
  v37 := Tryz.zeroValue34
  t70 := Tryz.underlying232
  a70 := Tryz.isAgg232
  z70 := Tryz.sizeOf232
  v70 := Tryz.zeroValue232
  t72 := Tryz.underlying234
  a72 := Tryz.isAgg234
  z72 := Tryz.sizeOf234
  v72 := Tryz.zeroValue234
  t75 := Tryz.underlying90
  a75 := Tryz.isAgg90
  z75 := Tryz.sizeOf90
  v75 := Tryz.zeroValue90
  t76 := Tryz.underlying91
  a76 := Tryz.isAgg91
  z76 := Tryz.sizeOf91
  v76 := Tryz.zeroValue91
  t127 := Tryz.underlying248
  a127 := Tryz.isAgg248
  z127 := Tryz.sizeOf248
  v127 := Tryz.zeroValue248
  t164 := Tryz.underlying279
  a164 := Tryz.isAgg279
  z164 := Tryz.sizeOf279
  v164 := Tryz.zeroValue279 }
theorem Tryz.Builder_Extra_156 : Builder.Extra Tryz.prog Tryz.lays156_ren := {
  sizeBuilder := by kernel_rfl
  liesBuilder := by kernel_rfl
  t5 := Tryz.underlying5
  a5 := Tryz.isAgg5
  z5 := Tryz.sizeOf5
  v5 := Tryz.zeroValue5
  infoByte := by kernel_rfl
  cellsByte := by kernel_rfl
  sizeByte := by kernel_rfl
  neB5 := by decide }
open Go.RowKit in
theorem Tryz.strings_Join_none (a : Option Addr) (c : Nat) (sep : ByteArray) (w : World) :
    Calls Tryz.prog 209 #[.slice a 0 c, .string sep] w fun e w' => e = .returned (.string ⟨#[]⟩) ∧ w' = w := Any.strings_Join_none Tryz.lays156 Tryz.Builder_Extra_156 a c sep w
open Go.RowKit in
theorem Tryz.strings_Join (bk o c : Nat) (xs : List ByteArray) (sep : ByteArray) (w : World) (hcells : ∀ (j : Nat) x, xs[j]? = some x → w.cell? ⟨bk, o + j, none⟩ = some (.string x)) (hbk : bk < w.heap.size) (hN : xs.length ≤ 140737488355328) (hcap : xs.length ≤ c) (hlen : (Lib.join (xs.map (·.data.toList)) sep.data.toList).length ≤ 140737488355328) :
    Calls Tryz.prog 209 #[.slice (some ⟨bk, o, none⟩) xs.length c, .string sep] w fun e w' => e = .returned (.string ⟨(Lib.join (xs.map (·.data.toList)) sep.data.toList).toArray⟩) ∧ Below w.heap.size w w' := Any.strings_Join Tryz.lays156 Tryz.Builder_Extra_156 bk o c xs sep w hcells hbk hN hcap hlen
def Tryz.lays160_ren : Go.Shelf.Ren := ⟨fun | 160 => 196 | 232 => 237 | 231 => 236 | 227 => 238 | 234 => 240 | 233 => 239 | 236 => 242 | 235 => 241 | 228 => 271 | 271 => 273 | 151 => 272 | 197 => 228 | 120 => 297 | 152 => 296 | 260 => 265 | 137 => 218 | 119 => 309 | 224 => 267 | 225 => 266 | 217 => 260 | 266 => 291 | n => n, fun | 9 => 9 | 4 => 4 | 3 => 3 | 5 => 5 | 117 => 225 | 116 => 224 | 0 => 0 | 124 => 228 | 21 => 21 | 105 => 216 | 46 => 196 | 119 => 268 | 139 => 271 | 138 => 270 | n => n, fun | 3 => 4 | 4 => 5 | n => n⟩
theorem Tryz.lays160 : Go.Proofs.Lays.n160 Tryz.prog Tryz.lays160_ren := {
  mixed := by kernel_rfl
  f119 := Tryz.func309.trans (congrArg some (by kernel_rfl))
  f120 := Tryz.func297.trans (congrArg some (by kernel_rfl))
  f137 := Tryz.func218.trans (congrArg some (by kernel_rfl))
  f151 := Tryz.func272.trans (congrArg some (by kernel_rfl))
  f152 := Tryz.func296.trans (congrArg some (by kernel_rfl))
  f160 := Tryz.func196.trans (congrArg some (by kernel_rfl))
  f197 := Tryz.func228.trans (congrArg some (by kernel_rfl))
  f217 := Tryz.func260.trans (congrArg some (by kernel_rfl))
  f224 := Tryz.func267.trans (congrArg some (by kernel_rfl))
  f225 := Tryz.func266.trans (congrArg some (by kernel_rfl))
  f227 := Tryz.func238.trans (congrArg some (by kernel_rfl))
  f228 := Tryz.func271.trans (congrArg some (by kernel_rfl))
  f231 := Tryz.func236.trans (congrArg some (by kernel_rfl))
  f232 := Tryz.func237.trans (congrArg some (by kernel_rfl))
  f233 := Tryz.func239.trans (congrArg some (by kernel_rfl))
  f234 := Tryz.func240.trans (congrArg some (by kernel_rfl))
  f235 := Tryz.func241.trans (congrArg some (by kernel_rfl))
  f236 := Tryz.func242.trans (congrArg some (by kernel_rfl))
  f260 := Tryz.func265.trans (congrArg some (by kernel_rfl))
  f266 := Tryz.func291.trans (congrArg some (by kernel_rfl))
  f271 := Tryz.func273.trans (congrArg some (by kernel_rfl))
  t0 := Tryz.underlying0
  a0 := Tryz.isAgg0
  z0 := Tryz.sizeOf0
  v0 := Tryz.zeroValue0
  t3 := Tryz.underlying3
  a3 := Tryz.isAgg3
  z3 := Tryz.sizeOf3
  v3 := Tryz.zeroValue3
  t4 := Tryz.underlying4
  a4 := Tryz.isAgg4
  z4 := Tryz.sizeOf4
  v4 := Tryz.zeroValue4
  t5 := Tryz.underlying5
  a5 := Tryz.isAgg5
  z5 := Tryz.sizeOf5
  v5 := Tryz.zeroValue5
  t9 := Tryz.underlying9
  a9 := Tryz.isAgg9
  z9 := Tryz.sizeOf9
  v9 := Tryz.zeroValue9
  t21 := Tryz.underlying21
  a21 := Tryz.isAgg21
  z21 := Tryz.sizeOf21
  v21 := Tryz.zeroValue21
  t46 := Tryz.underlying196
  a46 := Tryz.isAgg196
  z46 := Tryz.sizeOf196
  v46 := Tryz.zeroValue196
  t105 := Tryz.underlying216
  a105 := Tryz.isAgg216
  z105 := Tryz.sizeOf216
  v105 := Tryz.zeroValue216
  t116 := Tryz.underlying224
  a116 := Tryz.isAgg224
  z116 := Tryz.sizeOf224
  t117 := Tryz.underlying225
  a117 := Tryz.isAgg225
  z117 := Tryz.sizeOf225
  v117 := Tryz.zeroValue225
  t119 := Tryz.underlying268
  a119 := Tryz.isAgg268
  z119 := Tryz.sizeOf268
  t124 := Tryz.underlying228
  a124 := Tryz.isAgg228
  z124 := Tryz.sizeOf228
  v124 := Tryz.zeroValue228
  t138 := Tryz.underlying270
  a138 := Tryz.isAgg270
  z138 := Tryz.sizeOf270
  v138 := Tryz.zeroValue270
  t139 := Tryz.underlying271
  a139 := Tryz.isAgg271
  z139 := Tryz.sizeOf271
  v139 := Tryz.zeroValue271
  g3 := by kernel_rfl
  g4 := by kernel_rfl }
def Tryz.lays137_ren : Go.Shelf.Ren := ⟨fun | 137 => 218 | 217 => 260 | 266 => 291 | n => n, fun | 9 => 9 | 5 => 5 | 3 => 3 | n => n, fun | n => n⟩
theorem Tryz.lays137 : Go.Proofs.Lays.n137 Tryz.prog Tryz.lays137_ren := {
  mixed := by kernel_rfl
  f137 := Tryz.func218.trans (congrArg some (by kernel_rfl))
  f217 := Tryz.func260.trans (congrArg some (by kernel_rfl))
  f266 := Tryz.func291.trans (congrArg some (by kernel_rfl))
  t3 := Tryz.underlying3
  a3 := Tryz.isAgg3
  z3 := Tryz.sizeOf3
  v3 := Tryz.zeroValue3
  t5 := Tryz.underlying5
  a5 := Tryz.isAgg5
  z5 := Tryz.sizeOf5
  v5 := Tryz.zeroValue5
  t9 := Tryz.underlying9
  a9 := Tryz.isAgg9
  z9 := Tryz.sizeOf9
  v9 := Tryz.zeroValue9 }
open Go.RowKit in
theorem Tryz.strings_IndexByte (s : ByteArray) (c : Int) (w : World) :
    Calls Tryz.prog 218 #[.string s, .int .u8 c] w fun e w' => e = .returned (.int .i64 (Lib.indexByte s.data.toList c.toNat.toUInt8)) ∧ w' = w := Any.strings_IndexByte Tryz.lays137 s c w
def Tryz.lays172_ren : Go.Shelf.Ren := ⟨fun | 172 => 67 | 244 => 124 | 245 => 125 | 247 => 185 | 279 => 186 | 280 => 187 | 281 => 188 | 282 => 189 | 287 => 231 | 316 => 232 | 171 => 139 | 205 => 233 | 321 => 269 | 322 => 270 | 243 => 197 | 246 => 243 | 283 => 274 | 284 => 275 | 285 => 276 | 286 => 277 | 129 => 290 | 317 => 298 | 318 => 299 | 319 => 300 | 320 => 301 | 337 => 310 | 338 => 311 | n => n, fun | 9 => 9 | 3 => 3 | 75 => 90 | 76 => 91 | 4 => 4 | 5 => 5 | 167 => 174 | 37 => 34 | 0 => 0 | 85 => 175 | 2 => 2 | 168 => 177 | 53 => 194 | 175 => 218 | 46 => 196 | 210 => 221 | 127 => 248 | 145 => 251 | 143 => 249 | 21 => 21 | 171 => 253 | 173 => 256 | 212 => 276 | 51 => 192 | 20 => 20 | 213 => 277 | 232 => 292 | 233 => 293 | 80 => 99 | n => n, fun | 15 => 1 | 16 => 2 | 17 => 6 | 18 => 7 | 19 => 8 | n => n⟩
theorem Tryz.lays172 : Go.Proofs.Lays.n172 Tryz.prog Tryz.lays172_ren := {
  mixed := by kernel_rfl
  f129 := Tryz.func290.trans (congrArg some (by kernel_rfl))
  f171 := Tryz.func139.trans (congrArg some (by kernel_rfl))
  f172 := Tryz.func67.trans (congrArg some (by kernel_rfl))
  f205 := Tryz.func233.trans (congrArg some (by kernel_rfl))
  f243 := Tryz.func197.trans (congrArg some (by kernel_rfl))
  f244 := Tryz.func124.trans (congrArg some (by kernel_rfl))
  f245 := Tryz.func125.trans (congrArg some (by kernel_rfl))
  f246 := Tryz.func243.trans (congrArg some (by kernel_rfl))
  f247 := Tryz.func185.trans (congrArg some (by kernel_rfl))
  f279 := Tryz.func186.trans (congrArg some (by kernel_rfl))
  f280 := Tryz.func187.trans (congrArg some (by kernel_rfl))
  f281 := Tryz.func188.trans (congrArg some (by kernel_rfl))
  f282 := Tryz.func189.trans (congrArg some (by kernel_rfl))
  f283 := Tryz.func274.trans (congrArg some (by kernel_rfl))
  f284 := Tryz.func275.trans (congrArg some (by kernel_rfl))
  f285 := Tryz.func276.trans (congrArg some (by kernel_rfl))
  f286 := Tryz.func277.trans (congrArg some (by kernel_rfl))
  f287 := Tryz.func231.trans (congrArg some (by kernel_rfl))
  f316 := Tryz.func232.trans (congrArg some (by kernel_rfl))
  f317 := Tryz.func298.trans (congrArg some (by kernel_rfl))
  f318 := Tryz.func299.trans (congrArg some (by kernel_rfl))
  f319 := Tryz.func300.trans (congrArg some (by kernel_rfl))
  f320 := Tryz.func301.trans (congrArg some (by kernel_rfl))
  f321 := Tryz.func269.trans (congrArg some (by kernel_rfl))
  f322 := Tryz.func270.trans (congrArg some (by kernel_rfl))
  f337 := Tryz.func310.trans (congrArg some (by kernel_rfl))
  f338 := Tryz.func311.trans (congrArg some (by kernel_rfl))
  t0 := Tryz.underlying0
  a0 := Tryz.isAgg0
  z0 := Tryz.sizeOf0
  v0 := Tryz.zeroValue0
  t2 := Tryz.underlying2
  a2 := Tryz.isAgg2
  z2 := Tryz.sizeOf2
  v2 := Tryz.zeroValue2
  t3 := Tryz.underlying3
  a3 := Tryz.isAgg3
  z3 := Tryz.sizeOf3
  v3 := Tryz.zeroValue3
  t4 := Tryz.underlying4
  a4 := Tryz.isAgg4
  z4 := Tryz.sizeOf4
  v4 := Tryz.zeroValue4
  t5 := Tryz.underlying5
  a5 := Tryz.isAgg5
  z5 := Tryz.sizeOf5
  v5 := Tryz.zeroValue5
  t9 := Tryz.underlying9
  a9 := Tryz.isAgg9
  z9 := Tryz.sizeOf9
  v9 := Tryz.zeroValue9
  t20 := Tryz.underlying20
  a20 := Tryz.isAgg20
  z20 := Tryz.sizeOf20
  v20 := Tryz.zeroValue20
  t21 := Tryz.underlying21
  a21 := Tryz.isAgg21
  z21 := Tryz.sizeOf21
  v21 := Tryz.zeroValue21
  t37 := Tryz.underlying34
  a37 := Tryz.isAgg34
  z37 := Tryz.sizeOf34
  v37 := Tryz.zeroValue34
  t46 := Tryz.underlying196
  a46 := Tryz.isAgg196
  z46 := Tryz.sizeOf196
  v46 := Tryz.zeroValue196
  t51 := Tryz.underlying192
  a51 := Tryz.isAgg192
  z51 := Tryz.sizeOf192
  v51 := Tryz.zeroValue192
  t53 := Tryz.underlying194
  a53 := Tryz.isAgg194
  z53 := Tryz.sizeOf194
  v53 := Tryz.zeroValue194
  t75 := Tryz.underlying90
  a75 := Tryz.isAgg90
  z75 := Tryz.sizeOf90
  v75 := Tryz.zeroValue90
  t76 := Tryz.underlying91
  a76 := Tryz.isAgg91
  z76 := Tryz.sizeOf91
  v76 := Tryz.zeroValue91
  t85 := Tryz.underlying175
  a85 := Tryz.isAgg175
  z85 := Tryz.sizeOf175
  v85 := Tryz.zeroValue175
  t127 := Tryz.underlying248
  a127 := Tryz.isAgg248
  z127 := Tryz.sizeOf248
  v127 := Tryz.zeroValue248
  t143 := Tryz.underlying249
  a143 := Tryz.isAgg249
  z143 := Tryz.sizeOf249
  v143 := Tryz.zeroValue249
  t145 := Tryz.underlying251
  a145 := Tryz.isAgg251
  z145 := Tryz.sizeOf251
  v145 := Tryz.zeroValue251
  t167 := Tryz.underlying174
  a167 := Tryz.isAgg174
  z167 := Tryz.sizeOf174
  v167 := Tryz.zeroValue174
  t168 := Tryz.underlying177
  a168 := Tryz.isAgg177
  z168 := Tryz.sizeOf177
  v168 := Tryz.zeroValue177
  t171 := Tryz.underlying253
  a171 := Tryz.isAgg253
  z171 := Tryz.sizeOf253
  v171 := Tryz.zeroValue253
  t173 := Tryz.underlying256
  a173 := Tryz.isAgg256
  z173 := Tryz.sizeOf256
  v173 := Tryz.zeroValue256
  t175 := Tryz.underlying218
  a175 := Tryz.isAgg218
  z175 := Tryz.sizeOf218
  v175 := Tryz.zeroValue218
  t210 := Tryz.underlying221
  a210 := Tryz.isAgg221
  z210 := Tryz.sizeOf221
  v210 := Tryz.zeroValue221
  t212 := Tryz.underlying276
  a212 := Tryz.isAgg276
  z212 := Tryz.sizeOf276
  v212 := Tryz.zeroValue276
  t213 := Tryz.underlying277
  a213 := Tryz.isAgg277
  z213 := Tryz.sizeOf277
  t232 := Tryz.underlying292
  a232 := Tryz.isAgg292
  z232 := Tryz.sizeOf292
  v232 := Tryz.zeroValue292
  t233 := Tryz.underlying293
  a233 := Tryz.isAgg293
  z233 := Tryz.sizeOf293
  v233 := Tryz.zeroValue293
  g15 := by kernel_rfl
  g16 := by kernel_rfl
  g17 := by kernel_rfl
  g18 := by kernel_rfl
  g19 := by kernel_rfl }
open Go.RowKit in
theorem Tryz.strconv_Atoi (s : ByteArray) (n : Int) (hl : s.size ≤ 18) (h : Lib.atoi s.data.toList = some n) (w : World) :
    Calls Tryz.prog 67 #[.string s] w fun e w' => e = .returned (.tuple #[.int .i64 n, .nilIface]) ∧ ∃ t, w' = Lib.bytesWorld w 5 t := Any.strconv_Atoi Tryz.lays172 s n hl h w
def Tryz.laysM171_ren : Go.Shelf.Ren := ⟨fun | 171 => 139 | 243 => 197 | 246 => 243 | 283 => 274 | 284 => 275 | 285 => 276 | 286 => 277 | 129 => 290 | 317 => 298 | 318 => 299 | 319 => 300 | 320 => 301 | 337 => 310 | 338 => 311 | n => n, fun | 3 => 3 | 9 => 9 | 2 => 2 | 4 => 4 | 171 => 253 | 0 => 0 | 53 => 194 | 37 => 34 | 5 => 5 | 173 => 256 | 212 => 276 | 51 => 192 | 20 => 20 | 213 => 277 | 46 => 196 | 232 => 292 | 233 => 293 | n => n, fun | 17 => 6 | 18 => 7 | 19 => 8 | n => n⟩
theorem Tryz.laysM171 : Go.Proofs.LaysM.n171 Tryz.prog Tryz.laysM171_ren := {
  mixed := by kernel_rfl
  f129 := Tryz.func290.trans (congrArg some (by kernel_rfl))
  f171 := Tryz.func139.trans (congrArg some (by kernel_rfl))
  f243 := Tryz.func197.trans (congrArg some (by kernel_rfl))
  f246 := Tryz.func243.trans (congrArg some (by kernel_rfl))
  f283 := Tryz.func274.trans (congrArg some (by kernel_rfl))
  f284 := Tryz.func275.trans (congrArg some (by kernel_rfl))
  f285 := Tryz.func276.trans (congrArg some (by kernel_rfl))
  f286 := Tryz.func277.trans (congrArg some (by kernel_rfl))
  f317 := Tryz.func298.trans (congrArg some (by kernel_rfl))
  f318 := Tryz.func299.trans (congrArg some (by kernel_rfl))
  f319 := Tryz.func300.trans (congrArg some (by kernel_rfl))
  f320 := Tryz.func301.trans (congrArg some (by kernel_rfl))
  f337 := Tryz.func310.trans (congrArg some (by kernel_rfl))
  f338 := Tryz.func311.trans (congrArg some (by kernel_rfl))
  t0 := Tryz.underlying0
  a0 := Tryz.isAgg0
  z0 := Tryz.sizeOf0
  v0 := Tryz.zeroValue0
  t2 := Tryz.underlying2
  a2 := Tryz.isAgg2
  z2 := Tryz.sizeOf2
  v2 := Tryz.zeroValue2
  t3 := Tryz.underlying3
  a3 := Tryz.isAgg3
  z3 := Tryz.sizeOf3
  v3 := Tryz.zeroValue3
  t4 := Tryz.underlying4
  a4 := Tryz.isAgg4
  z4 := Tryz.sizeOf4
  v4 := Tryz.zeroValue4
  t5 := Tryz.underlying5
  a5 := Tryz.isAgg5
  z5 := Tryz.sizeOf5
  v5 := Tryz.zeroValue5
  t9 := Tryz.underlying9
  a9 := Tryz.isAgg9
  z9 := Tryz.sizeOf9
  v9 := Tryz.zeroValue9
  t20 := Tryz.underlying20
  a20 := Tryz.isAgg20
  z20 := Tryz.sizeOf20
  v20 := Tryz.zeroValue20
  t37 := Tryz.underlying34
  a37 := Tryz.isAgg34
  z37 := Tryz.sizeOf34
  v37 := Tryz.zeroValue34
  t46 := Tryz.underlying196
  a46 := Tryz.isAgg196
  z46 := Tryz.sizeOf196
  v46 := Tryz.zeroValue196
  t51 := Tryz.underlying192
  a51 := Tryz.isAgg192
  z51 := Tryz.sizeOf192
  v51 := Tryz.zeroValue192
  t53 := Tryz.underlying194
  a53 := Tryz.isAgg194
  z53 := Tryz.sizeOf194
  v53 := Tryz.zeroValue194
  t171 := Tryz.underlying253
  a171 := Tryz.isAgg253
  z171 := Tryz.sizeOf253
  v171 := Tryz.zeroValue253
  t173 := Tryz.underlying256
  a173 := Tryz.isAgg256
  z173 := Tryz.sizeOf256
  v173 := Tryz.zeroValue256
  t212 := Tryz.underlying276
  a212 := Tryz.isAgg276
  z212 := Tryz.sizeOf276
  v212 := Tryz.zeroValue276
  t213 := Tryz.underlying277
  a213 := Tryz.isAgg277
  z213 := Tryz.sizeOf277
  t232 := Tryz.underlying292
  a232 := Tryz.isAgg292
  z232 := Tryz.sizeOf292
  v232 := Tryz.zeroValue292
  t233 := Tryz.underlying293
  a233 := Tryz.isAgg293
  z233 := Tryz.sizeOf293
  v233 := Tryz.zeroValue293
  g17 := by kernel_rfl
  g18 := by kernel_rfl
  g19 := by kernel_rfl
  i0 := by kernel_rfl
  i2 := by kernel_rfl
  i3 := by kernel_rfl
  i4 := by kernel_rfl
  i5 := by kernel_rfl
  i9 := by kernel_rfl
  i20 := by kernel_rfl
  i37 := by kernel_rfl
  i46 := by kernel_rfl
  i51 := by kernel_rfl
  i53 := by kernel_rfl
  i171 := by kernel_rfl
  i173 := by kernel_rfl
  i212 := by kernel_rfl
  i232 := by kernel_rfl
  i233 := by kernel_rfl
  m17 := by kernel_rfl
  m18 := by kernel_rfl
  m19 := by kernel_rfl }
open Go.RowKit Go.Sort Go.Lib in
theorem Tryz.strconv_Itoa (n : Int) (h0 : -9223372036854775808 ≤ n) (h1 : n ≤ 9223372036854775807) (w : World) (htab : Lib.TabIs Tryz.prog w "internal/strconv.uint64pow10" .u64 Lib.pow10Tab) :
    Calls Tryz.prog 139 #[.int .i64 n] w fun e w' => e = .returned (.string ⟨(Lib.itoa n).toArray⟩) ∧ ∃ k os, w' = grow (w.drewN k) os := Any.strconv_Itoa Tryz.laysM171 n h0 h1 w htab
def Tryz.laysC172_ren : Go.Shelf.Ren := ⟨fun | 172 => 67 | 244 => 124 | 245 => 125 | 247 => 185 | 279 => 186 | 280 => 187 | 281 => 188 | 282 => 189 | 287 => 231 | 316 => 232 | 171 => 139 | 205 => 233 | 321 => 269 | 322 => 270 | 243 => 197 | 246 => 243 | 283 => 274 | 284 => 275 | 285 => 276 | 286 => 277 | 129 => 290 | 317 => 298 | 318 => 299 | 319 => 300 | 320 => 301 | 337 => 310 | 338 => 311 | n => n, fun | 9 => 9 | 3 => 3 | 75 => 90 | 76 => 91 | 4 => 4 | 5 => 5 | 167 => 174 | 37 => 34 | 0 => 0 | 85 => 175 | 2 => 2 | 168 => 177 | 53 => 194 | 175 => 218 | 46 => 196 | 210 => 221 | 127 => 248 | 145 => 251 | 143 => 249 | 21 => 21 | 171 => 253 | 173 => 256 | 212 => 276 | 51 => 192 | 20 => 20 | 213 => 277 | 232 => 292 | 233 => 293 | 80 => 99 | n => n, fun | 15 => 1 | 16 => 2 | 17 => 6 | 18 => 7 | 19 => 8 | n => n⟩
theorem Tryz.laysC172 : Go.Proofs.LaysC.n172 Tryz.prog Tryz.laysC172_ren := {
  mixed := by kernel_rfl
  f129 := Tryz.func290.trans (congrArg some (by kernel_rfl))
  f171 := Tryz.func139.trans (congrArg some (by kernel_rfl))
  f172 := Tryz.func67.trans (congrArg some (by kernel_rfl))
  f205 := Tryz.func233.trans (congrArg some (by kernel_rfl))
  f243 := Tryz.func197.trans (congrArg some (by kernel_rfl))
  f244 := Tryz.func124.trans (congrArg some (by kernel_rfl))
  f245 := Tryz.func125.trans (congrArg some (by kernel_rfl))
  f246 := Tryz.func243.trans (congrArg some (by kernel_rfl))
  f247 := Tryz.func185.trans (congrArg some (by kernel_rfl))
  f279 := Tryz.func186.trans (congrArg some (by kernel_rfl))
  f280 := Tryz.func187.trans (congrArg some (by kernel_rfl))
  f281 := Tryz.func188.trans (congrArg some (by kernel_rfl))
  f282 := Tryz.func189.trans (congrArg some (by kernel_rfl))
  f283 := Tryz.func274.trans (congrArg some (by kernel_rfl))
  f284 := Tryz.func275.trans (congrArg some (by kernel_rfl))
  f285 := Tryz.func276.trans (congrArg some (by kernel_rfl))
  f286 := Tryz.func277.trans (congrArg some (by kernel_rfl))
  f287 := Tryz.func231.trans (congrArg some (by kernel_rfl))
  f316 := Tryz.func232.trans (congrArg some (by kernel_rfl))
  f317 := Tryz.func298.trans (congrArg some (by kernel_rfl))
  f318 := Tryz.func299.trans (congrArg some (by kernel_rfl))
  f319 := Tryz.func300.trans (congrArg some (by kernel_rfl))
  f320 := Tryz.func301.trans (congrArg some (by kernel_rfl))
  f321 := Tryz.func269.trans (congrArg some (by kernel_rfl))
  f322 := Tryz.func270.trans (congrArg some (by kernel_rfl))
  f337 := Tryz.func310.trans (congrArg some (by kernel_rfl))
  f338 := Tryz.func311.trans (congrArg some (by kernel_rfl))
  t0 := Tryz.underlying0
  a0 := Tryz.isAgg0
  z0 := Tryz.sizeOf0
  v0 := Tryz.zeroValue0
  t2 := Tryz.underlying2
  a2 := Tryz.isAgg2
  z2 := Tryz.sizeOf2
  v2 := Tryz.zeroValue2
  t3 := Tryz.underlying3
  a3 := Tryz.isAgg3
  z3 := Tryz.sizeOf3
  v3 := Tryz.zeroValue3
  t4 := Tryz.underlying4
  a4 := Tryz.isAgg4
  z4 := Tryz.sizeOf4
  v4 := Tryz.zeroValue4
  t5 := Tryz.underlying5
  a5 := Tryz.isAgg5
  z5 := Tryz.sizeOf5
  v5 := Tryz.zeroValue5
  t9 := Tryz.underlying9
  a9 := Tryz.isAgg9
  z9 := Tryz.sizeOf9
  v9 := Tryz.zeroValue9
  t20 := Tryz.underlying20
  a20 := Tryz.isAgg20
  z20 := Tryz.sizeOf20
  v20 := Tryz.zeroValue20
  t21 := Tryz.underlying21
  a21 := Tryz.isAgg21
  z21 := Tryz.sizeOf21
  v21 := Tryz.zeroValue21
  t37 := Tryz.underlying34
  a37 := Tryz.isAgg34
  z37 := Tryz.sizeOf34
  v37 := Tryz.zeroValue34
  t46 := Tryz.underlying196
  a46 := Tryz.isAgg196
  z46 := Tryz.sizeOf196
  v46 := Tryz.zeroValue196
  t51 := Tryz.underlying192
  a51 := Tryz.isAgg192
  z51 := Tryz.sizeOf192
  v51 := Tryz.zeroValue192
  t53 := Tryz.underlying194
  a53 := Tryz.isAgg194
  z53 := Tryz.sizeOf194
  v53 := Tryz.zeroValue194
  t75 := Tryz.underlying90
  a75 := Tryz.isAgg90
  z75 := Tryz.sizeOf90
  v75 := Tryz.zeroValue90
  t76 := Tryz.underlying91
  a76 := Tryz.isAgg91
  z76 := Tryz.sizeOf91
  v76 := Tryz.zeroValue91
  t85 := Tryz.underlying175
  a85 := Tryz.isAgg175
  z85 := Tryz.sizeOf175
  v85 := Tryz.zeroValue175
  t127 := Tryz.underlying248
  a127 := Tryz.isAgg248
  z127 := Tryz.sizeOf248
  v127 := Tryz.zeroValue248
  t143 := Tryz.underlying249
  a143 := Tryz.isAgg249
  z143 := Tryz.sizeOf249
  v143 := Tryz.zeroValue249
  t145 := Tryz.underlying251
  a145 := Tryz.isAgg251
  z145 := Tryz.sizeOf251
  v145 := Tryz.zeroValue251
  t167 := Tryz.underlying174
  a167 := Tryz.isAgg174
  z167 := Tryz.sizeOf174
  v167 := Tryz.zeroValue174
  t168 := Tryz.underlying177
  a168 := Tryz.isAgg177
  z168 := Tryz.sizeOf177
  v168 := Tryz.zeroValue177
  t171 := Tryz.underlying253
  a171 := Tryz.isAgg253
  z171 := Tryz.sizeOf253
  v171 := Tryz.zeroValue253
  t173 := Tryz.underlying256
  a173 := Tryz.isAgg256
  z173 := Tryz.sizeOf256
  v173 := Tryz.zeroValue256
  t175 := Tryz.underlying218
  a175 := Tryz.isAgg218
  z175 := Tryz.sizeOf218
  v175 := Tryz.zeroValue218
  t210 := Tryz.underlying221
  a210 := Tryz.isAgg221
  z210 := Tryz.sizeOf221
  v210 := Tryz.zeroValue221
  t212 := Tryz.underlying276
  a212 := Tryz.isAgg276
  z212 := Tryz.sizeOf276
  v212 := Tryz.zeroValue276
  t213 := Tryz.underlying277
  a213 := Tryz.isAgg277
  z213 := Tryz.sizeOf277
  t232 := Tryz.underlying292
  a232 := Tryz.isAgg292
  z232 := Tryz.sizeOf292
  v232 := Tryz.zeroValue292
  t233 := Tryz.underlying293
  a233 := Tryz.isAgg293
  z233 := Tryz.sizeOf293
  v233 := Tryz.zeroValue293
  g15 := by kernel_rfl
  g16 := by kernel_rfl
  g17 := by kernel_rfl
  g18 := by kernel_rfl
  g19 := by kernel_rfl
  t80 := Tryz.underlying99
  a80 := Tryz.isAgg99
  z80 := Tryz.sizeOf99
  v80 := Tryz.zeroValue99
  i0 := by kernel_rfl
  i2 := by kernel_rfl
  i3 := by kernel_rfl
  i4 := by kernel_rfl
  i5 := by kernel_rfl
  i9 := by kernel_rfl
  i20 := by kernel_rfl
  i21 := by kernel_rfl
  i37 := by kernel_rfl
  i46 := by kernel_rfl
  i51 := by kernel_rfl
  i53 := by kernel_rfl
  i75 := by kernel_rfl
  i76 := by kernel_rfl
  i80 := by kernel_rfl
  i85 := by kernel_rfl
  i127 := by kernel_rfl
  i143 := by kernel_rfl
  i145 := by kernel_rfl
  i167 := by kernel_rfl
  i168 := by kernel_rfl
  i171 := by kernel_rfl
  i173 := by kernel_rfl
  i175 := by kernel_rfl
  i210 := by kernel_rfl
  i212 := by kernel_rfl
  i232 := by kernel_rfl
  i233 := by kernel_rfl
  m15 := by kernel_rfl
  m16 := by kernel_rfl
  m17 := by kernel_rfl
  m18 := by kernel_rfl
  m19 := by kernel_rfl
  c0 := by kernel_rfl
  c2 := by kernel_rfl
  c3 := by kernel_rfl
  c4 := by kernel_rfl
  c5 := by kernel_rfl
  c9 := by kernel_rfl
  c20 := by kernel_rfl
  c21 := by kernel_rfl
  c37 := by kernel_rfl
  c46 := by kernel_rfl
  c51 := by kernel_rfl
  c53 := by kernel_rfl
  c75 := by kernel_rfl
  c76 := by kernel_rfl
  c80 := by kernel_rfl
  c85 := by kernel_rfl
  c127 := by kernel_rfl
  c143 := by kernel_rfl
  c145 := by kernel_rfl
  c167 := by kernel_rfl
  c168 := by kernel_rfl
  c171 := by kernel_rfl
  c173 := by kernel_rfl
  c175 := by kernel_rfl
  c210 := by kernel_rfl
  c212 := by kernel_rfl
  c213 := by kernel_rfl
  c232 := by kernel_rfl
  c233 := by kernel_rfl }
open Go.RowKit in
theorem Tryz.strconv_Atoi_ok (s : ByteArray) (hmax : s.size ≤ 9223372036854775806) (v : Int) (h : Lib.atoiAll s.data.toList = .ok v) (w : World) :
    Calls Tryz.prog 67 #[.string s] w fun e w' => e = .returned (.tuple #[.int .i64 v, .nilIface]) ∧ (w' = w ∨ ∃ t, w' = Lib.bytesWorld w 5 t) := Any.strconv_Atoi_ok Tryz.laysC172 s hmax v h w
open Go.RowKit in
theorem Tryz.strconv_Atoi_range (s : ByteArray) (hlim : s.size ≤ 281474976710656) (h : Lib.atoiAll s.data.toList = .range) (ev : Value) (w : World) (hv : w.cell? ⟨2, 0, none⟩ = some ev) (hev : ev = .nilIface ∨ ∃ te pe, ev = .iface te pe) :
    Calls Tryz.prog 67 #[.string s] w fun e w' => ∃ N, e = .returned (.tuple #[.int .i64 (Lib.atoiSat s.data.toList), .iface 177 (.pointer (some ⟨N, 0, none⟩))]) ∧ w.heap.size ≤ N ∧ w'.heap[N]? = some (.cells #[.string ⟨#[65, 116, 111, 105]⟩, .string s, ev] 221 (0, 0)) ∧ Below w.heap.size w w' := Any.strconv_Atoi_range Tryz.laysC172 s hlim h ev w hv hev
def Tryz.lays145_ren : Go.Shelf.Ren := ⟨fun | 145 => 190 | 220 => 234 | 219 => 230 | 217 => 260 | 225 => 266 | 224 => 267 | 267 => 268 | 266 => 291 | 314 => 295 | n => n, fun | 9 => 9 | 4 => 4 | 59 => 180 | 3 => 3 | 5 => 5 | 46 => 196 | 146 => 272 | 51 => 192 | n => n, fun | 1 => 3 | n => n⟩
theorem Tryz.lays145 : Go.Proofs.Lays.n145 Tryz.prog Tryz.lays145_ren := {
  mixed := by kernel_rfl
  f145 := Tryz.func190.trans (congrArg some (by kernel_rfl))
  f217 := Tryz.func260.trans (congrArg some (by kernel_rfl))
  f219 := Tryz.func230.trans (congrArg some (by kernel_rfl))
  f220 := Tryz.func234.trans (congrArg some (by kernel_rfl))
  f224 := Tryz.func267.trans (congrArg some (by kernel_rfl))
  f225 := Tryz.func266.trans (congrArg some (by kernel_rfl))
  f266 := Tryz.func291.trans (congrArg some (by kernel_rfl))
  f267 := Tryz.func268.trans (congrArg some (by kernel_rfl))
  f314 := Tryz.func295.trans (congrArg some (by kernel_rfl))
  t3 := Tryz.underlying3
  a3 := Tryz.isAgg3
  z3 := Tryz.sizeOf3
  v3 := Tryz.zeroValue3
  t4 := Tryz.underlying4
  a4 := Tryz.isAgg4
  z4 := Tryz.sizeOf4
  v4 := Tryz.zeroValue4
  t5 := Tryz.underlying5
  a5 := Tryz.isAgg5
  z5 := Tryz.sizeOf5
  v5 := Tryz.zeroValue5
  t9 := Tryz.underlying9
  a9 := Tryz.isAgg9
  z9 := Tryz.sizeOf9
  v9 := Tryz.zeroValue9
  t46 := Tryz.underlying196
  a46 := Tryz.isAgg196
  z46 := Tryz.sizeOf196
  v46 := Tryz.zeroValue196
  t51 := Tryz.underlying192
  a51 := Tryz.isAgg192
  z51 := Tryz.sizeOf192
  v51 := Tryz.zeroValue192
  t59 := Tryz.underlying180
  a59 := Tryz.isAgg180
  z59 := Tryz.sizeOf180
  v59 := Tryz.zeroValue180
  t146 := Tryz.underlying272
  a146 := Tryz.isAgg272
  z146 := Tryz.sizeOf272
  v146 := Tryz.zeroValue272
  g1 := by kernel_rfl }
open Go.RowKit Go.Lib in
theorem Tryz.strings_Cut (s sep : ByteArray) (m : Int) (w : World) (hs : s.size < 4294967281) (hm : w.cell? ⟨3, 0, none⟩ = some (.int .i64 m)) :
    Calls Tryz.prog 190 #[.string s, .string sep] w fun e w' => e = .returned (.tuple #[.string ⟨(Lib.cut s.data.toList sep.data.toList).1.toArray⟩, .string ⟨(Lib.cut s.data.toList sep.data.toList).2.1.toArray⟩, .bool (Lib.cut s.data.toList sep.data.toList).2.2]) ∧ ∃ n, w' = w.drewN n := Any.strings_Cut Tryz.lays145 s sep m w hs hm
def Tryz.lays99_ren : Go.Shelf.Ren := ⟨fun | 99 => 126 | 206 => 184 | n => n, fun | 9 => 9 | 4 => 4 | 3 => 3 | n => n, fun | n => n⟩
theorem Tryz.lays99 : Go.Proofs.Lays.n99 Tryz.prog Tryz.lays99_ren := {
  mixed := by kernel_rfl
  f99 := Tryz.func126.trans (congrArg some (by kernel_rfl))
  f206 := Tryz.func184.trans (congrArg some (by kernel_rfl))
  t3 := Tryz.underlying3
  a3 := Tryz.isAgg3
  z3 := Tryz.sizeOf3
  v3 := Tryz.zeroValue3
  t4 := Tryz.underlying4
  a4 := Tryz.isAgg4
  z4 := Tryz.sizeOf4
  v4 := Tryz.zeroValue4
  t9 := Tryz.underlying9
  a9 := Tryz.isAgg9
  z9 := Tryz.sizeOf9
  v9 := Tryz.zeroValue9 }
open Go.RowKit Go.Lib in
theorem Tryz.strings_HasPrefix (s p : ByteArray) (w : World) :
    Calls Tryz.prog 126 #[.string s, .string p] w fun e w' => e = .returned (.bool (Lib.hasPrefix s.data.toList p.data.toList)) ∧ w' = w := Any.strings_HasPrefix Tryz.lays99 s p w
def Tryz.lays100_ren : Go.Shelf.Ren := ⟨fun | 100 => 247 | 207 => 278 | n => n, fun | 9 => 9 | 4 => 4 | 3 => 3 | n => n, fun | n => n⟩
theorem Tryz.lays100 : Go.Proofs.Lays.n100 Tryz.prog Tryz.lays100_ren := {
  mixed := by kernel_rfl
  f100 := Tryz.func247.trans (congrArg some (by kernel_rfl))
  f207 := Tryz.func278.trans (congrArg some (by kernel_rfl))
  t3 := Tryz.underlying3
  a3 := Tryz.isAgg3
  z3 := Tryz.sizeOf3
  v3 := Tryz.zeroValue3
  t4 := Tryz.underlying4
  a4 := Tryz.isAgg4
  z4 := Tryz.sizeOf4
  v4 := Tryz.zeroValue4
  t9 := Tryz.underlying9
  a9 := Tryz.isAgg9
  z9 := Tryz.sizeOf9
  v9 := Tryz.zeroValue9 }
open Go.RowKit Go.Lib in
theorem Tryz.strings_HasSuffix (s p : ByteArray) (w : World) (hs : s.size ≤ 9223372036854775807) :
    Calls Tryz.prog 247 #[.string s, .string p] w fun e w' => e = .returned (.bool (Lib.hasSuffix s.data.toList p.data.toList)) ∧ w' = w := Any.strings_HasSuffix Tryz.lays100 s p w hs
def Tryz.lays101_ren : Go.Shelf.Ren := ⟨fun | 101 => 66 | 208 => 123 | 206 => 184 | n => n, fun | 9 => 9 | 4 => 4 | 3 => 3 | n => n, fun | n => n⟩
theorem Tryz.lays101 : Go.Proofs.Lays.n101 Tryz.prog Tryz.lays101_ren := {
  mixed := by kernel_rfl
  f101 := Tryz.func66.trans (congrArg some (by kernel_rfl))
  f206 := Tryz.func184.trans (congrArg some (by kernel_rfl))
  f208 := Tryz.func123.trans (congrArg some (by kernel_rfl))
  t3 := Tryz.underlying3
  a3 := Tryz.isAgg3
  z3 := Tryz.sizeOf3
  v3 := Tryz.zeroValue3
  t4 := Tryz.underlying4
  a4 := Tryz.isAgg4
  z4 := Tryz.sizeOf4
  v4 := Tryz.zeroValue4
  t9 := Tryz.underlying9
  a9 := Tryz.isAgg9
  z9 := Tryz.sizeOf9
  v9 := Tryz.zeroValue9 }
open Go.RowKit Go.Lib in
theorem Tryz.strings_TrimPrefix (s p : ByteArray) (w : World) :
    Calls Tryz.prog 66 #[.string s, .string p] w fun e w' => e = .returned (.string ⟨(Lib.trimPrefix s.data.toList p.data.toList).toArray⟩) ∧ w' = w := Any.strings_TrimPrefix Tryz.lays101 s p w
def Tryz.lays146_ren : Go.Shelf.Ren := ⟨fun | 146 => 65 | 221 => 122 | 268 => 181 | 138 => 182 | 143 => 183 | 195 => 227 | 197 => 228 | 218 => 229 | 219 => 230 | 260 => 265 | 217 => 260 | 225 => 266 | 224 => 267 | 267 => 268 | 266 => 291 | 314 => 295 | n => n, fun | 9 => 9 | 31 => 22 | 3 => 3 | 4 => 4 | 0 => 0 | 105 => 216 | 21 => 21 | 5 => 5 | 46 => 196 | 119 => 268 | 139 => 271 | 138 => 270 | 146 => 272 | 51 => 192 | n => n, fun | 1 => 3 | 3 => 4 | 4 => 5 | n => n⟩
theorem Tryz.lays146 : Go.Proofs.Lays.n146 Tryz.prog Tryz.lays146_ren := {
  mixed := by kernel_rfl
  f138 := Tryz.func182.trans (congrArg some (by kernel_rfl))
  f143 := Tryz.func183.trans (congrArg some (by kernel_rfl))
  f146 := Tryz.func65.trans (congrArg some (by kernel_rfl))
  f195 := Tryz.func227.trans (congrArg some (by kernel_rfl))
  f197 := Tryz.func228.trans (congrArg some (by kernel_rfl))
  f217 := Tryz.func260.trans (congrArg some (by kernel_rfl))
  f218 := Tryz.func229.trans (congrArg some (by kernel_rfl))
  f219 := Tryz.func230.trans (congrArg some (by kernel_rfl))
  f221 := Tryz.func122.trans (congrArg some (by kernel_rfl))
  f224 := Tryz.func267.trans (congrArg some (by kernel_rfl))
  f225 := Tryz.func266.trans (congrArg some (by kernel_rfl))
  f260 := Tryz.func265.trans (congrArg some (by kernel_rfl))
  f266 := Tryz.func291.trans (congrArg some (by kernel_rfl))
  f267 := Tryz.func268.trans (congrArg some (by kernel_rfl))
  f268 := Tryz.func181.trans (congrArg some (by kernel_rfl))
  f314 := Tryz.func295.trans (congrArg some (by kernel_rfl))
  t0 := Tryz.underlying0
  a0 := Tryz.isAgg0
  z0 := Tryz.sizeOf0
  v0 := Tryz.zeroValue0
  t3 := Tryz.underlying3
  a3 := Tryz.isAgg3
  z3 := Tryz.sizeOf3
  v3 := Tryz.zeroValue3
  t4 := Tryz.underlying4
  a4 := Tryz.isAgg4
  z4 := Tryz.sizeOf4
  v4 := Tryz.zeroValue4
  t5 := Tryz.underlying5
  a5 := Tryz.isAgg5
  z5 := Tryz.sizeOf5
  v5 := Tryz.zeroValue5
  t9 := Tryz.underlying9
  a9 := Tryz.isAgg9
  z9 := Tryz.sizeOf9
  v9 := Tryz.zeroValue9
  t21 := Tryz.underlying21
  a21 := Tryz.isAgg21
  z21 := Tryz.sizeOf21
  v21 := Tryz.zeroValue21
  t31 := Tryz.underlying22
  a31 := Tryz.isAgg22
  z31 := Tryz.sizeOf22
  v31 := Tryz.zeroValue22
  t46 := Tryz.underlying196
  a46 := Tryz.isAgg196
  z46 := Tryz.sizeOf196
  v46 := Tryz.zeroValue196
  t51 := Tryz.underlying192
  a51 := Tryz.isAgg192
  z51 := Tryz.sizeOf192
  v51 := Tryz.zeroValue192
  t105 := Tryz.underlying216
  a105 := Tryz.isAgg216
  z105 := Tryz.sizeOf216
  v105 := Tryz.zeroValue216
  t119 := Tryz.underlying268
  a119 := Tryz.isAgg268
  z119 := Tryz.sizeOf268
  t138 := Tryz.underlying270
  a138 := Tryz.isAgg270
  z138 := Tryz.sizeOf270
  v138 := Tryz.zeroValue270
  t139 := Tryz.underlying271
  a139 := Tryz.isAgg271
  z139 := Tryz.sizeOf271
  v139 := Tryz.zeroValue271
  t146 := Tryz.underlying272
  a146 := Tryz.isAgg272
  z146 := Tryz.sizeOf272
  v146 := Tryz.zeroValue272
  g1 := by kernel_rfl
  g3 := by kernel_rfl
  g4 := by kernel_rfl }
open Go.RowKit Go.Lib in
theorem Tryz.strings_Split (s sep : ByteArray) (m : Int) (w : World) (hs : s.size < 4294967281) (hm : w.cell? ⟨3, 0, none⟩ = some (.int .i64 m)) (h1 : 1 ≤ sep.size) :
    Calls Tryz.prog 65 #[.string s, .string sep] w fun e w' =>
      e = .returned (.slice (some ⟨w.heap.size, 0, none⟩) (Lib.countB s sep + 1) (Lib.countB s sep + 1)) ∧ w' = w.alloc (.cells ((Lib.splitB sep 0 (Lib.countB s sep) s).map Value.string).toArray 9) := Any.strings_Split Tryz.lays146 (by kernel_rfl) s sep m w hs hm h1
end Go.Proofs
end

section
/- strings.Join: texts, another one between. -/
namespace Go.Proofs.YtjfkeknnjjlepaaGreatDoor.Rf
open Go Go.RowKit
set_option linter.unusedVariables false
set_option linter.unusedSimpArgs false
abbrev strings_Join.ps : List Par := [⟨.row .str, .rd⟩, ⟨.str, .rd⟩]
abbrev strings_Join.rs : List Res := [⟨.str, .ro, false⟩]
def strings_Join.F (_ : Nat) (x : List ByteArray × ByteArray) : Option ByteArray := if x.1.length ≤ 140737488355328 ∧ (Lib.join (x.1.map (·.data.toList)) x.2.data.toList).length ≤ 140737488355328 then some (⟨(Lib.join (x.1.map (·.data.toList)) x.2.data.toList).toArray⟩ : ByteArray) else none
def strings_Join.f (k : Nat) (l : List ByteArray) (c : ByteArray) : Option ByteArray := strings_Join.F k (l, c)
theorem strings_Join.can : Can Tryz.prog 209 := q9t (fn := Tryz.f209) (by kernel_rfl) (by kernel_rfl) (by kernel_rfl)
theorem strings_Join.snd (k : Nat) : Snd Tryz.prog Jp 209 ⟨strings_Join.ps, strings_Join.rs, strings_Join.F k⟩ := by
  refine qdv rfl ?_
  rintro ⟨l, c⟩ r hr ξ w vs wf hj hsz ha
  simp only [strings_Join.F] at hr
  split at hr
  case isFalse => cases hr
  rename_i h
  obtain rfl := Option.some.inj hr
  obtain ⟨T0, h0⟩ := ha 0 _ _ rfl rfl
  obtain ⟨T1, h1⟩ := ha 1 _ _ rfl rfl
  obtain ⟨A0, cap, e0, hc, hl⟩ := qvc h0
  obtain rfl := qgv hsz e0 (q8k (by simp) h1)
  have fin : ∀ (e : Ending) (w' : World), e = .returned (.string (⟨(Lib.join (l.map (·.data.toList)) c.data.toList).toArray⟩ : ByteArray)) ∧ Below w.heap.size w w' → ∃ v, ∃ tr : Bs, e = .returned v ∧ Below w.heap.size w w' ∧ q6c ξ w' (.d .str (⟨(Lib.join (l.map (·.data.toList)) c.data.toList).toArray⟩ : ByteArray) .ro) v tr ∧ ∀ b, tr b → w.heap.size ≤ b ∧ b < w'.heap.size :=
    fun e w' ⟨he, hb⟩ => ⟨_, Em, he, hb, qjs _ _ _ _, fun b hb => hb.elim⟩
  rcases hl with rfl | ⟨b, off, rfl, hb, hx⟩
  · exact (Go.Proofs.Tryz.strings_Join_none A0 cap c w).mono fun e w' ⟨he, hw⟩ => fin e w' ⟨he, hw ▸ Below.refl _ _⟩
  · exact (Go.Proofs.Tryz.strings_Join b off cap l c w hx hb h.1 hc h.2).mono fin
end Go.Proofs.YtjfkeknnjjlepaaGreatDoor.Rf
end

section
/- strconv.Itoa. -/
namespace Go.Proofs.YtjfkeknnjjlepaaGreatDoor.Rf
open Go Go.RowKit
set_option linter.unusedVariables false
set_option linter.unusedSimpArgs false
abbrev strconv_Itoa.ps : List Par := [⟨.int .i64, .rd⟩]
abbrev strconv_Itoa.rs : List Res := [⟨.str, .ro, false⟩]
def strconv_Itoa.F (_ : Nat) (x : Int) : Option ByteArray := if -9223372036854775808 ≤ x ∧ x ≤ 9223372036854775807 then some (⟨(Lib.itoa x).toArray⟩ : ByteArray) else none
def strconv_Itoa.f (k : Nat) (n : Int) : Option ByteArray := strconv_Itoa.F k n
theorem strconv_Itoa.can : Can Tryz.prog 139 := q9t (fn := Tryz.f139) (by kernel_rfl) (by kernel_rfl) (by kernel_rfl)
theorem strconv_Itoa.snd (k : Nat) : Snd Tryz.prog Jp 139 ⟨strconv_Itoa.ps, strconv_Itoa.rs, strconv_Itoa.F k⟩ := by
  refine qdv rfl ?_
  intro (n : Int) r hr ξ w vs wf hj hsz ha
  simp only [strconv_Itoa.F] at hr
  split at hr
  case isFalse => cases hr
  rename_i h
  obtain rfl := Option.some.inj hr
  obtain ⟨T0, h0⟩ := ha 0 _ _ rfl rfl
  obtain rfl := qmt hsz (qq9 (by simp) h0)
  refine (Go.Proofs.Tryz.strconv_Itoa n h.1 h.2 w hj.p).mono ?_
  rintro e w' ⟨rfl, k, os, rfl⟩
  exact ⟨_, Em, rfl, qd8 w k os, qjs _ _ _ _, fun b hb => hb.elim⟩
end Go.Proofs.YtjfkeknnjjlepaaGreatDoor.Rf
end

section
/- Functions of the program, told plainly, and their contracts: part A1. -/
namespace Go.Proofs.YtjfkeknnjjlepaaGreatDoor.Rf
open Go Go.RowKit
set_option linter.unusedVariables false
noncomputable section
def q05.C (k : Nat) : CEs := []
abbrev q05.ps : List Par := [⟨t24, .rd⟩, ⟨qge, .rd⟩]
abbrev q05.rs : List Res := [⟨(.int .i64), .ro, false⟩]
def q05.H : q4u := [(2, [(0, .ro), (3, .ro), (7, .ro), (8, .ro)])]
def q05.F := q4v E q05.C q05.H Tryz.f248 q05.ps q05.rs
def q05.L2 (k k1 : Nat) (x0 : List Aff) (x3 : Aff) (x7 : Int) (x8 : Int) : Option (Int) := atL E q05.C q05.H Tryz.f248 q05.ps q05.rs [true, false, true, true] k [] k1 (sh 19 [(0, .d t24 x0 .ro), (3, .box qge x3 .ro none), (7, .d (.int .i64) x7 .ro), (8, .d (.int .i64) x8 .ro)])
def q05.f (k : Nat) (x0 : List Aff) (x1 : Aff) : Option (Int) := q05.F k (x0, x1)
theorem q05.f_eq (k : Nat) (x0 : List Aff) (x1 : Aff) : q05.f k x0 x1 = q05.L2 k k x0 x1 (x0.length : Int) (0 : Int) := by kernel_rfl
theorem q05.L2_eq (k k1 : Nat) (x0 : List Aff) (x3 : Aff) (x7 : Int) (x8 : Int) : q05.L2 k (k1 + 1) x0 x3 x7 x8 = ifb (decide (x8 < x7)) (ifb (decide (0 ≤ x8) && decide (x8 < (x0.length : Int))) (ifb ((x3.1.toList == ((x0.getD x8.toNat zA).1).toList) && ((x3.2.1 == ((x0.getD x8.toNat zA).2).1) && ((x3.2.2.1.toList == ((((x0.getD x8.toNat zA).2).2).1).toList) && ((x3.2.2.2.1.toList == (((((x0.getD x8.toNat zA).2).2).2).1).toList) && (x3.2.2.2.2.toList == (((((x0.getD x8.toNat zA).2).2).2).2).toList))))) (some x8) (q05.L2 k k1 x0 x3 x7 (w64 (x8 + 1)))) (none)) (some (-1 : Int)) := by kernel_rfl
abbrev q05.e (k : Nat) : FuncId × CE := (248, ⟨q05.ps, q05.rs, q05.F k⟩)
theorem q05.q (k : Nat) : Qs (q05.e k) := qq (C := q05.C) (fun k => .nil) k
def q0c.C (k : Nat) : CEs := [q05.e k]
abbrev q0c.ps : List Par := [⟨t24, .rd⟩, ⟨qge, .rd⟩]
abbrev q0c.rs : List Res := [⟨.bool, .ro, false⟩]
def q0c.F := q4v E q0c.C [] Tryz.f203 q0c.ps q0c.rs
def q0c.f (k : Nat) (x0 : List Aff) (x1 : Aff) : Option (Bool) := q0c.F k (x0, x1)
theorem q0c.f_eq (k : Nat) (x0 : List Aff) (x1 : Aff) : q0c.f k x0 x1 = (q05.f k x0 x1).bind fun (r0 : Int) => some (decide (r0 ≥ (0 : Int))) := by kernel_rfl
abbrev q0c.e (k : Nat) : FuncId × CE := (203, ⟨q0c.ps, q0c.rs, q0c.F k⟩)
theorem q0c.q (k : Nat) : Qs (q0c.e k) := qq (C := q0c.C) (fun k => .c (q05.q k) <| .nil) k
def q1a.C (k : Nat) : CEs := [q1r.e k, q0c.e k]
abbrev q1a.ps : List Par := [⟨t24, .rd⟩]
abbrev q1a.rs : List Res := [⟨.bool, .ro, false⟩]
def q1a.H : q4u := [(2, [(0, .ro), (5, .ro), (6, .ro), (7, .ro)])]
def q1a.F := q4v E q1a.C q1a.H Tryz.f145 q1a.ps q1a.rs
def q1a.L2 (k k1 : Nat) (x0 : List Aff) (x5 : List Aff) (x6 : Int) (x7 : Int) : Option (Bool) := atL E q1a.C q1a.H Tryz.f145 q1a.ps q1a.rs [true, false, true, true] k [] k1 (sh 26 [(0, .d t24 x0 .ro), (5, .d t24 x5 .ro), (6, .d (.int .i64) x6 .ro), (7, .d (.int .i64) x7 .ro)])
def q1a.f (k : Nat) (x0 : List Aff) : Option (Bool) := q1a.F k x0
theorem q1a.f_eq (k : Nat) (x0 : List Aff) : q1a.f k x0 = q1a.L2 k k x0 x0 (x0.length : Int) (0 : Int) := by kernel_rfl
theorem q1a.L2_eq (k k1 : Nat) (x0 : List Aff) (x5 : List Aff) (x6 : Int) (x7 : Int) : q1a.L2 k (k1 + 1) x0 x5 x6 x7 = ifb (decide (x7 < x6)) (ifb (decide (0 ≤ x7) && decide (x7 < (x5.length : Int))) ((q1r.f k1 (x5.getD x7.toNat zA)).bind fun (r0 : Bool) => ifb (!r0) (some false) (ifb (decide (0 ≤ (0 : Int)) && (decide ((0 : Int) ≤ x7) && decide (x7 ≤ (x0.length : Int)))) ((q0c.f k1 ((x0.take x7.toNat).drop (0 : Int).toNat) (x5.getD x7.toNat zA)).bind fun (r1 : Bool) => ifb r1 (some false) (q1a.L2 k k1 x0 x5 x6 (w64 (x7 + 1)))) (none))) (none)) (some (decide ((x0.length : Int) ≤ (8 : Int)))) := by kernel_rfl
abbrev q1a.e (k : Nat) : FuncId × CE := (145, ⟨q1a.ps, q1a.rs, q1a.F k⟩)
theorem q1a.q (k : Nat) : Qs (q1a.e k) := qq (C := q1a.C) (fun k => .c (q1r.q k) <| .c (q0c.q k) <| .nil) k
def q46.C (k : Nat) : CEs := [q3g.e k, q3b.e k]
abbrev q46.ps : List Par := [⟨.str, .rd⟩]
abbrev q46.rs : List Res := [⟨.bool, .ro, false⟩]
def q46.F := q4v E q46.C [] Tryz.f235 q46.ps q46.rs
def q46.f (k : Nat) (x0 : ByteArray) : Option (Bool) := q46.F k x0
theorem q46.f_eq (k : Nat) (x0 : ByteArray) : q46.f k x0 = (q3g.f k (x0.size : Int) (1 : Int) (12 : Int)).bind fun (r0 : Bool) => ifb r0 ((q3b.f k x0).bind fun (r1 : Bool) => some r1) (some false) := by kernel_rfl
abbrev q46.e (k : Nat) : FuncId × CE := (235, ⟨q46.ps, q46.rs, q46.F k⟩)
theorem q46.q (k : Nat) : Qs (q46.e k) := qq (C := q46.C) (fun k => .c (q3g.q k) <| .c (q3b.q k) <| .nil) k
def q2h.C (k : Nat) : CEs := [q4t.e k, q46.e k]
abbrev q2h.ps : List Par := [⟨qi3, .rd⟩]
abbrev q2h.rs : List Res := [⟨.bool, .ro, false⟩]
def q2h.H : q4u := [(2, [(1, .ro), (6, .ro), (7, .ro)])]
def q2h.F := q4v E q2h.C q2h.H Tryz.f204 q2h.ps q2h.rs
def q2h.L2 (k k1 : Nat) (x1 : ByteArray × ByteArray) (x6 : Int) (x7 : Int) : Option (Bool) := atL E q2h.C q2h.H Tryz.f204 q2h.ps q2h.rs [true, false, true, true] k [] k1 (sh 42 [(1, .box qi3 x1 .ro none), (6, .d (.int .i64) x6 .ro), (7, .d (.int .i64) x7 .ro)])
def q2h.f (k : Nat) (x0 : ByteArray × ByteArray) : Option (Bool) := q2h.F k x0
theorem q2h.f_eq (k : Nat) (x0 : ByteArray × ByteArray) : q2h.f k x0 = q2h.L2 k k x0 (x0.2.size : Int) (0 : Int) := by kernel_rfl
theorem q2h.L2_eq (k k1 : Nat) (x1 : ByteArray × ByteArray) (x6 : Int) (x7 : Int) : q2h.L2 k (k1 + 1) x1 x6 x7 = ifb (decide (x7 < x6)) (ifb (decide (0 ≤ x7) && decide (x7 < (x1.2.size : Int))) ((q4t.f k1 (q38 x1.2 x7)).bind fun (r0 : Bool) => ifb (!r0) (some false) (ifb (decide (x7 > 0)) (ifb (decide (0 ≤ (w64 (x7 - 1))) && decide ((w64 (x7 - 1)) < (x1.2.size : Int))) (ifb (decide (0 ≤ x7) && decide (x7 < (x1.2.size : Int))) (ifb (decide ((q38 x1.2 (w64 (x7 - 1))) ≥ (q38 x1.2 x7))) (some false) (q2h.L2 k k1 x1 x6 (w64 (x7 + 1)))) (none)) (none)) (q2h.L2 k k1 x1 x6 (w64 (x7 + 1))))) (none)) ((q46.f k x1.1).bind fun (r1 : Bool) => ifb r1 (some (decide ((x1.2.size : Int) ≤ (4 : Int)))) (some false)) := by kernel_rfl
abbrev q2h.e (k : Nat) : FuncId × CE := (204, ⟨q2h.ps, q2h.rs, q2h.F k⟩)
theorem q2h.q (k : Nat) : Qs (q2h.e k) := qq (C := q2h.C) (fun k => .c (q4t.q k) <| .c (q46.q k) <| .nil) k
def q15.C (k : Nat) : CEs := [q2h.e k]
abbrev q15.ps : List Par := [⟨t23, .rd⟩]
abbrev q15.rs : List Res := [⟨.bool, .ro, false⟩]
def q15.H : q4u := [(2, [(0, .ro), (5, .ro), (6, .ro), (7, .ro)])]
def q15.F := q4v E q15.C q15.H Tryz.f146 q15.ps q15.rs
def q15.L2 (k k1 : Nat) (x0 : List En) (x5 : List En) (x6 : Int) (x7 : Int) : Option (Bool) := atL E q15.C q15.H Tryz.f146 q15.ps q15.rs [true, false, true, true] k [] k1 (sh 34 [(0, .d t23 x0 .ro), (5, .d t23 x5 .ro), (6, .d (.int .i64) x6 .ro), (7, .d (.int .i64) x7 .ro)])
def q15.f (k : Nat) (x0 : List En) : Option (Bool) := q15.F k x0
theorem q15.f_eq (k : Nat) (x0 : List En) : q15.f k x0 = q15.L2 k k x0 x0 (x0.length : Int) (0 : Int) := by kernel_rfl
theorem q15.L2_eq (k k1 : Nat) (x0 : List En) (x5 : List En) (x6 : Int) (x7 : Int) : q15.L2 k (k1 + 1) x0 x5 x6 x7 = ifb (decide (x7 < x6)) (ifb (decide (0 ≤ x7) && decide (x7 < (x5.length : Int))) ((q2h.f k1 (x5.getD x7.toNat zE)).bind fun (r0 : Bool) => ifb (!r0) (some false) (ifb (decide (x7 > 0)) (ifb (decide (0 ≤ (w64 (x7 - 1))) && decide ((w64 (x7 - 1)) < (x0.length : Int))) (ifb (!(Op.bytesLess ((x0.getD ((w64 (x7 - 1)).toNat) zE).1).toList ((x5.getD x7.toNat zE).1).toList)) (some false) (q15.L2 k k1 x0 x5 x6 (w64 (x7 + 1)))) (none)) (q15.L2 k k1 x0 x5 x6 (w64 (x7 + 1))))) (none)) (some (decide ((x0.length : Int) ≤ (24 : Int)))) := by kernel_rfl
abbrev q15.e (k : Nat) : FuncId × CE := (146, ⟨q15.ps, q15.rs, q15.F k⟩)
theorem q15.q (k : Nat) : Qs (q15.e k) := qq (C := q15.C) (fun k => .c (q2h.q k) <| .nil) k
def q3s.C (k : Nat) : CEs := [q1a.e k, q15.e k]
abbrev q3s.ps : List Par := [⟨t39, .rd⟩]
abbrev q3s.rs : List Res := [⟨.bool, .ro, false⟩]
def q3s.F := q4v E q3s.C [] Tryz.f86 q3s.ps q3s.rs
def q3s.f (k : Nat) (x0 : Book) : Option (Bool) := q3s.F k x0
theorem q3s.f_eq (k : Nat) (x0 : Book) : q3s.f k x0 = (q1a.f k x0.1).bind fun (r0 : Bool) => ifb r0 ((q15.f k x0.2).bind fun (r1 : Bool) => some r1) (some false) := by kernel_rfl
abbrev q3s.e (k : Nat) : FuncId × CE := (86, ⟨q3s.ps, q3s.rs, q3s.F k⟩)
theorem q3s.q (k : Nat) : Qs (q3s.e k) := qq (C := q3s.C) (fun k => .c (q1a.q k) <| .c (q15.q k) <| .nil) k
def q03.C (k : Nat) : CEs := []
abbrev q03.ps : List Par := [⟨t24, .rd⟩, ⟨t24, .rd⟩]
abbrev q03.rs : List Res := [⟨.bool, .ro, false⟩]
def q03.H : q4u := [(4, [(0, .ro), (1, .ro), (12, .ro), (13, .ro)])]
def q03.F := q4v E q03.C q03.H Tryz.f149 q03.ps q03.rs
def q03.L4 (k k1 : Nat) (x0 : List Aff) (x1 : List Aff) (x12 : Int) (x13 : Int) : Option (Bool) := atL E q03.C q03.H Tryz.f149 q03.ps q03.rs [true, true, false, true, true] k [] k1 (sh 26 [(0, .d t24 x0 .ro), (1, .d t24 x1 .ro), (12, .d (.int .i64) x12 .ro), (13, .d (.int .i64) x13 .ro)])
def q03.f (k : Nat) (x0 : List Aff) (x1 : List Aff) : Option (Bool) := q03.F k (x0, x1)
theorem q03.f_eq (k : Nat) (x0 : List Aff) (x1 : List Aff) : q03.f k x0 x1 = ifb ((x0.length : Int) != (x1.length : Int)) (some false) (q03.L4 k k x0 x1 (x0.length : Int) (0 : Int)) := by kernel_rfl
theorem q03.L4_eq (k k1 : Nat) (x0 : List Aff) (x1 : List Aff) (x12 : Int) (x13 : Int) : q03.L4 k (k1 + 1) x0 x1 x12 x13 = ifb (decide (x13 < x12)) (ifb (decide (0 ≤ x13) && decide (x13 < (x0.length : Int))) (ifb (decide (0 ≤ x13) && decide (x13 < (x1.length : Int))) (ifb (!((((x0.getD x13.toNat zA).1).toList == ((x1.getD x13.toNat zA).1).toList) && ((((x0.getD x13.toNat zA).2).1 == ((x1.getD x13.toNat zA).2).1) && ((((((x0.getD x13.toNat zA).2).2).1).toList == ((((x1.getD x13.toNat zA).2).2).1).toList) && (((((((x0.getD x13.toNat zA).2).2).2).1).toList == (((((x1.getD x13.toNat zA).2).2).2).1).toList) && ((((((x0.getD x13.toNat zA).2).2).2).2).toList == (((((x1.getD x13.toNat zA).2).2).2).2).toList)))))) (some false) (q03.L4 k k1 x0 x1 x12 (w64 (x13 + 1)))) (none)) (none)) (some true) := by kernel_rfl
abbrev q03.e (k : Nat) : FuncId × CE := (149, ⟨q03.ps, q03.rs, q03.F k⟩)
theorem q03.q (k : Nat) : Qs (q03.e k) := qq (C := q03.C) (fun k => .nil) k
abbrev q3f.e (k : Nat) : FuncId × CE := (147, ⟨q3f.ps, q3f.rs, q3f.F k⟩)
theorem q3f.q (k : Nat) : Qs (q3f.e k) := ⟨q3f.snd k, q3f.can⟩
abbrev strings_Join.e (k : Nat) : FuncId × CE := (209, ⟨strings_Join.ps, strings_Join.rs, strings_Join.F k⟩)
theorem strings_Join.q (k : Nat) : Qs (strings_Join.e k) := ⟨strings_Join.snd k, strings_Join.can⟩
def q1b.C (k : Nat) : CEs := [strings_Join.e k]
abbrev q1b.ps : List Par := [⟨qge, .rd⟩]
abbrev q1b.rs : List Res := [⟨.str, .ro, false⟩]
def q1b.H : q4u := [(4, [(1, .ro), (3, .ro)])]
def q1b.F := q4v E q1b.C q1b.H Tryz.f152 q1b.ps q1b.rs
def q1b.J4 (k : Nat) (x1 : Aff) (x3 : ByteArray) : Option (ByteArray) := atJ E q1b.C q1b.H Tryz.f152 q1b.ps q1b.rs [true, true, true] 0 [] k (sh 18 [(1, .box qge x1 .ro none), (3, .d .str x3 .ro)])
def q1b.f (k : Nat) (x0 : Aff) : Option (ByteArray) := q1b.F k x0
theorem q1b.f_eq (k : Nat) (x0 : Aff) : q1b.f k x0 = ifb x0.2.1 (q1b.J4 k x0 (⟨#[102, 114, 111, 110, 116]⟩ : ByteArray)) (q1b.J4 k x0 (⟨#[101, 110, 100]⟩ : ByteArray)) := by kernel_rfl
theorem q1b.J4_eq (k : Nat) (x1 : Aff) (x3 : ByteArray) : q1b.J4 (k + 1) x1 x3 = (strings_Join.f k [x3, x1.1, x1.2.2.1, x1.2.2.2.1, x1.2.2.2.2] (⟨#[32]⟩ : ByteArray)).bind fun (r0 : ByteArray) => ifb (q5x (r0.size + (⟨#[10]⟩ : ByteArray).size)) (some (r0 ++ (⟨#[10]⟩ : ByteArray))) (none) := by kernel_rfl
abbrev q1b.e (k : Nat) : FuncId × CE := (152, ⟨q1b.ps, q1b.rs, q1b.F k⟩)
theorem q1b.q (k : Nat) : Qs (q1b.e k) := qq (C := q1b.C) (fun k => .c (strings_Join.q k) <| .nil) k
def q3a.C (k : Nat) : CEs := []
abbrev q3a.ps : List Par := [⟨qi3, .rd⟩]
abbrev q3a.rs : List Res := [⟨.str, .ro, false⟩]
def q3a.F := q4v E q3a.C [] Tryz.f153 q3a.ps q3a.rs
def q3a.f (k : Nat) (x0 : ByteArray × ByteArray) : Option (ByteArray) := q3a.F k x0
theorem q3a.f_eq (k : Nat) (x0 : ByteArray × ByteArray) : q3a.f k x0 = ifb (x0.2.toList == bz.toList) (ifb (q5x (x0.1.size + (⟨#[10]⟩ : ByteArray).size)) (some (x0.1 ++ (⟨#[10]⟩ : ByteArray))) (none)) (ifb (q5x (x0.1.size + (⟨#[47]⟩ : ByteArray).size)) (ifb (q5x ((x0.1 ++ (⟨#[47]⟩ : ByteArray)).size + x0.2.size)) (ifb (q5x (((x0.1 ++ (⟨#[47]⟩ : ByteArray)) ++ x0.2).size + (⟨#[10]⟩ : ByteArray).size)) (some (((x0.1 ++ (⟨#[47]⟩ : ByteArray)) ++ x0.2) ++ (⟨#[10]⟩ : ByteArray))) (none)) (none)) (none)) := by kernel_rfl
abbrev q3a.e (k : Nat) : FuncId × CE := (153, ⟨q3a.ps, q3a.rs, q3a.F k⟩)
theorem q3a.q (k : Nat) : Qs (q3a.e k) := qq (C := q3a.C) (fun k => .nil) k
def q17.C (k : Nat) : CEs := [q3s.e k, q1b.e k, q3a.e k]
abbrev q17.ps : List Par := [⟨t39, .rd⟩]
abbrev q17.rs : List Res := [⟨.str, .ro, false⟩]
def q17.H : q4u := [(5, [(1, .ro), (3, .ro), (12, .ro), (13, .ro), (14, .ro)]), (10, [(3, .ro), (24, .ro), (25, .ro), (26, .ro)])]
def q17.F := q4v E q17.C q17.H Tryz.f89 q17.ps q17.rs
def q17.L5 (k k1 : Nat) (x1 : Book) (x3 : ByteArray) (x12 : List Aff) (x13 : Int) (x14 : Int) : Option (ByteArray) := atL E q17.C q17.H Tryz.f89 q17.ps q17.rs [true, true, true, false, true, true] k [] k1 (sh 36 [(1, .box t39 x1 .ro none), (3, .d .str x3 .ro), (12, .d t24 x12 .ro), (13, .d (.int .i64) x13 .ro), (14, .d (.int .i64) x14 .ro)])
def q17.L10 (k k1 : Nat) (x3 : ByteArray) (x24 : List En) (x25 : Int) (x26 : Int) : Option (ByteArray) := atL E q17.C q17.H Tryz.f89 q17.ps q17.rs [true, true, true, true, false, true, true] k [] k1 (sh 36 [(3, .d .str x3 .ro), (24, .d t23 x24 .ro), (25, .d (.int .i64) x25 .ro), (26, .d (.int .i64) x26 .ro)])
def q17.f (k : Nat) (x0 : Book) : Option (ByteArray) := q17.F k x0
theorem q17.f_eq (k : Nat) (x0 : Book) : q17.f k x0 = (q3s.f k x0).bind fun (r0 : Bool) => ifb (!r0) (some bz) (q17.L5 k k x0 bz x0.1 (x0.1.length : Int) (0 : Int)) := by kernel_rfl
theorem q17.L5_eq (k k1 : Nat) (x1 : Book) (x3 : ByteArray) (x12 : List Aff) (x13 : Int) (x14 : Int) : q17.L5 k (k1 + 1) x1 x3 x12 x13 x14 = ifb (decide (x14 < x13)) (ifb (decide (0 ≤ x14) && decide (x14 < (x12.length : Int))) ((q1b.f k1 (x12.getD x14.toNat zA)).bind fun (r1 : ByteArray) => ifb (q5x (x3.size + r1.size)) (q17.L5 k k1 x1 (x3 ++ r1) x12 x13 (w64 (x14 + 1))) (none)) (none)) (q17.L10 k k x3 x1.2 (x1.2.length : Int) (0 : Int)) := by kernel_rfl
theorem q17.L10_eq (k k1 : Nat) (x3 : ByteArray) (x24 : List En) (x25 : Int) (x26 : Int) : q17.L10 k (k1 + 1) x3 x24 x25 x26 = ifb (decide (x26 < x25)) (ifb (decide (0 ≤ x26) && decide (x26 < (x24.length : Int))) ((q3a.f k1 (x24.getD x26.toNat zE)).bind fun (r2 : ByteArray) => ifb (q5x (x3.size + r2.size)) (q17.L10 k k1 (x3 ++ r2) x24 x25 (w64 (x26 + 1))) (none)) (none)) (some x3) := by kernel_rfl
abbrev q17.e (k : Nat) : FuncId × CE := (89, ⟨q17.ps, q17.rs, q17.F k⟩)
theorem q17.q (k : Nat) : Qs (q17.e k) := qq (C := q17.C) (fun k => .c (q3s.q k) <| .c (q1b.q k) <| .c (q3a.q k) <| .nil) k
def q3h.C (k : Nat) : CEs := []
abbrev q3h.ps : List Par := [⟨(.int .u32), .rd⟩, ⟨(.int .i64), .rd⟩]
abbrev q3h.rs : List Res := [⟨(.int .u32), .ro, false⟩]
def q3h.F := q4v E q3h.C [] Tryz.f208 q3h.ps q3h.rs
def q3h.f (k : Nat) (x0 : Int) (x1 : Int) : Option (Int) := q3h.F k (x0, x1)
theorem q3h.f_eq (k : Nat) (x0 : Int) (x1 : Int) : q3h.f k x0 x1 = ifb (decide (0 ≤ x1)) (ifb (decide (0 ≤ (w64 ((32 : Int) - x1)))) (some (IntKind.u32.wrap ((BitVec.ofInt 32 (x0.fdiv (2 ^ (min x1.toNat 32))) ||| BitVec.ofInt 32 (IntKind.u32.wrap (x0 * 2 ^ (min (w64 ((32 : Int) - x1)).toNat 32)))).toNat))) (none)) (none) := by kernel_rfl
abbrev q3h.e (k : Nat) : FuncId × CE := (208, ⟨q3h.ps, q3h.rs, q3h.F k⟩)
theorem q3h.q (k : Nat) : Qs (q3h.e k) := qq (C := q3h.C) (fun k => .nil) k
def q00.C (k : Nat) : CEs := [q3h.e k]
abbrev q00.ps : List Par := [⟨.str, .rd⟩]
abbrev q00.rs : List Res := [⟨.str, .ro, false⟩]
def q00.H : q4u := [(3, [(0, .ro), (3, .ro), (4, (.own .ro))]), (7, [(3, .ro), (4, (.own .ro)), (5, .ro), (6, .ro)]), (10, [(3, .ro), (4, .ro)]), (14, [(3, .ro), (4, .ro), (7, .ro), (54, .ro)]), (37, [(18, (.own .ro)), (226, .ro), (227, .ro)]), (20, [(3, .ro), (4, .ro), (7, .ro), (54, .ro)]), (23, [(3, .ro), (4, .ro), (7, .ro), (11, .ro), (133, .ro)]), (27, [(3, .ro), (4, .ro), (7, .ro), (11, .ro), (13, .ro), (14, .ro), (15, .ro), (133, .ro)]), (31, [(3, .ro), (4, .ro), (11, .ro), (213, .ro)]), (28, [(3, .ro), (4, .ro), (7, .ro), (11, .ro), (13, .ro), (14, .ro), (15, .ro), (16, .ro), (133, .ro)])]
def q00.F := q4v E q00.C q00.H Tryz.f151 q00.ps q00.rs
def q00.L3 (k k1 : Nat) (x0 : ByteArray) (x3 : List Int) (x4 : List Int) : Option (ByteArray) := atL E q00.C q00.H Tryz.f151 q00.ps q00.rs [true, true, true, false, true] k [] k1 (sh 247 [(0, .d .str x0 .ro), (3, .box t193 x3 .ro none), (4, .d t34 x4 (.own .ro))])
def q00.L7 (k k1 : Nat) (x3 : List Int) (x4 : List Int) (x5 : Int) (x6 : Int) : Option (ByteArray) := atL E q00.C q00.H Tryz.f151 q00.ps q00.rs [true, true, true, true, true, false, true, true] k [] k1 (sh 247 [(3, .box t193 x3 .ro none), (4, .d t34 x4 (.own .ro)), (5, .d (.int .u64) x5 .ro), (6, .d (.int .i64) x6 .ro)])
def q00.L10 (k k1 : Nat) (x3 : List Int) (x4 : List Int) : Option (ByteArray) := atL E q00.C q00.H Tryz.f151 q00.ps q00.rs [true, true, true, true, true, true, false, true] k [] k1 (sh 247 [(3, .box t193 x3 .ro none), (4, .d t34 x4 .ro)])
def q00.L14 (k k1 k2 : Nat) (x3 : List Int) (x4 : List Int) (x7 : List Int) (x54 : Int) : Option (ByteArray) := atL E q00.C q00.H Tryz.f151 q00.ps q00.rs [true, true, true, true, true, true, false, true, true, true, false, true, true, false, true, true] k [k1] k2 (sh 247 [(3, .box t193 x3 .ro none), (4, .d t34 x4 .ro), (7, .box qwf x7 .ro none), (54, .d (.int .i64) x54 .ro)])
def q00.L37 (k k1 : Nat) (x18 : List Int) (x226 : List Int) (x227 : Int) : Option (ByteArray) := atL E q00.C q00.H Tryz.f151 q00.ps q00.rs [true, true, true, true, true, true, true, true, false, true, true] k [] k1 (sh 247 [(18, .d t34 x18 (.own .ro)), (226, .d t193 x226 .ro), (227, .d (.int .i64) x227 .ro)])
def q00.J20 (k k1 k2 k3 : Nat) (x3 : List Int) (x4 : List Int) (x7 : List Int) (x54 : Int) : Option (ByteArray) := atJ E q00.C q00.H Tryz.f151 q00.ps q00.rs [true, true, true, true, true, true, false, true, true, true, false, true, true, false, true, true, true, true, true, true] k [k1, k2] k3 (sh 247 [(3, .box t193 x3 .ro none), (4, .d t34 x4 .ro), (7, .box qwf x7 .ro none), (54, .d (.int .i64) x54 .ro)])
def q00.L23 (k k1 k2 : Nat) (x3 : List Int) (x4 : List Int) (x7 : List Int) (x11 : List Int) (x133 : Int) : Option (ByteArray) := atL E q00.C q00.H Tryz.f151 q00.ps q00.rs [true, true, true, true, true, true, false, true, true, true, false, true, true, true, true, false, true, true] k [k1] k2 (sh 247 [(3, .box t193 x3 .ro none), (4, .d t34 x4 .ro), (7, .box qwf x7 .ro none), (11, .box t193 x11 .ro none), (133, .d (.int .i64) x133 .ro)])
def q00.J27 (k k1 k2 k3 : Nat) (x3 : List Int) (x4 : List Int) (x7 : List Int) (x11 : List Int) (x13 : Int) (x14 : Int) (x15 : Int) (x133 : Int) : Option (ByteArray) := atJ E q00.C q00.H Tryz.f151 q00.ps q00.rs [true, true, true, true, true, true, false, true, true, true, false, true, true, true, true, false, true, true, true, true, true, false, true, true, true, true] k [k1, k2] k3 (sh 247 [(3, .box t193 x3 .ro none), (4, .d t34 x4 .ro), (7, .box qwf x7 .ro none), (11, .box t193 x11 .ro none), (13, .d (.int .u32) x13 .ro), (14, .d (.int .u32) x14 .ro), (15, .d (.int .u32) x15 .ro), (133, .d (.int .i64) x133 .ro)])
def q00.L31 (k k1 k2 : Nat) (x3 : List Int) (x4 : List Int) (x11 : List Int) (x213 : Int) : Option (ByteArray) := atL E q00.C q00.H Tryz.f151 q00.ps q00.rs [true, true, true, true, true, true, false, true, true, true, false, true, true, true, true, true, true, true] k [k1] k2 (sh 247 [(3, .box t193 x3 .ro none), (4, .d t34 x4 .ro), (11, .box t193 x11 .ro none), (213, .d (.int .i64) x213 .ro)])
def q00.J28 (k k1 k2 k3 : Nat) (x3 : List Int) (x4 : List Int) (x7 : List Int) (x11 : List Int) (x13 : Int) (x14 : Int) (x15 : Int) (x16 : Int) (x133 : Int) : Option (ByteArray) := atJ E q00.C q00.H Tryz.f151 q00.ps q00.rs [true, true, true, true, true, true, false, true, true, true, false, true, true, true, true, false, true, true, true, true, true, false, true, true, true, true, true] k [k1, k2, 0] k3 (sh 247 [(3, .box t193 x3 .ro none), (4, .d t34 x4 .ro), (7, .box qwf x7 .ro none), (11, .box t193 x11 .ro none), (13, .d (.int .u32) x13 .ro), (14, .d (.int .u32) x14 .ro), (15, .d (.int .u32) x15 .ro), (16, .d (.int .u32) x16 .ro), (133, .d (.int .i64) x133 .ro)])
def q00.f (k : Nat) (x0 : ByteArray) : Option (ByteArray) := q00.F k x0
theorem q00.f_eq (k : Nat) (x0 : ByteArray) : q00.f k x0 = ifb (decide (((bytesOf x0).length + [(128 : Int)].length) * 1 ≤ q1m)) (q00.L3 k k x0 [(1779033703 : Int), (3144134277 : Int), (1013904242 : Int), (2773480762 : Int), (1359893119 : Int), (2600822924 : Int), (528734635 : Int), (1541459225 : Int)] ((bytesOf x0) ++ [(128 : Int)])) (none) := by kernel_rfl
theorem q00.L3_eq (k k1 : Nat) (x0 : ByteArray) (x3 : List Int) (x4 : List Int) : q00.L3 k (k1 + 1) x0 x3 x4 = ifb (decide ((64 : Int) ≠ 0)) (ifb (((x4.length : Int).tmod (64 : Int)) != (56 : Int)) (ifb (decide ((x4.length + [(0 : Int)].length) * 1 ≤ q1m)) (q00.L3 k k1 x0 x3 (x4 ++ [(0 : Int)])) (none)) (q00.L7 k k x3 x4 (IntKind.u64.wrap ((IntKind.u64.wrap (x0.size : Int)) * (8 : Int))) (56 : Int))) (none) := by kernel_rfl
theorem q00.L7_eq (k k1 : Nat) (x3 : List Int) (x4 : List Int) (x5 : Int) (x6 : Int) : q00.L7 k (k1 + 1) x3 x4 x5 x6 = ifb (decide (x6 ≥ (0 : Int))) (ifb (decide (0 ≤ x6)) (ifb (decide ((x4.length + [(IntKind.u8.wrap (x5.fdiv (2 ^ (min x6.toNat 64))))].length) * 1 ≤ q1m)) (q00.L7 k k1 x3 (x4 ++ [(IntKind.u8.wrap (x5.fdiv (2 ^ (min x6.toNat 64))))]) x5 (w64 (x6 - (8 : Int)))) (none)) (none)) (q00.L10 k k x3 x4) := by kernel_rfl
theorem q00.L10_eq (k k1 : Nat) (x3 : List Int) (x4 : List Int) : q00.L10 k (k1 + 1) x3 x4 = ifb (decide ((x4.length : Int) > 0)) (q00.L14 k k1 k1 x3 x4 (List.replicate (63 + 1) (0 : Int)) (0 : Int)) (q00.L37 k k ([] : List Int) x3 (0 : Int)) := by kernel_rfl
theorem q00.L14_eq (k k1 k2 : Nat) (x3 : List Int) (x4 : List Int) (x7 : List Int) (x54 : Int) : q00.L14 k k1 (k2 + 1) x3 x4 x7 x54 = ifb (decide (x54 < (64 : Int))) (ifb (decide (x54 < (16 : Int))) (ifb (decide (0 ≤ (w64 ((4 : Int) * x54))) && decide ((w64 ((4 : Int) * x54)) < (x4.length : Int))) (ifb (decide (0 ≤ (24 : Int))) (ifb (decide (0 ≤ (w64 ((w64 ((4 : Int) * x54)) + 1))) && decide ((w64 ((w64 ((4 : Int) * x54)) + 1)) < (x4.length : Int))) (ifb (decide (0 ≤ (16 : Int))) (ifb (decide (0 ≤ (w64 ((w64 ((4 : Int) * x54)) + (2 : Int)))) && decide ((w64 ((w64 ((4 : Int) * x54)) + (2 : Int))) < (x4.length : Int))) (ifb (decide (0 ≤ (8 : Int))) (ifb (decide (0 ≤ (w64 ((w64 ((4 : Int) * x54)) + (3 : Int)))) && decide ((w64 ((w64 ((4 : Int) * x54)) + (3 : Int))) < (x4.length : Int))) (ifb (decide (0 ≤ x54) && decide (x54 < ((63 : Nat) : Int) + 1)) (q00.J20 k k1 k2 k2 x3 x4 (x7.set x54.toNat (IntKind.u32.wrap ((BitVec.ofInt 32 (IntKind.u32.wrap ((BitVec.ofInt 32 (IntKind.u32.wrap ((BitVec.ofInt 32 (IntKind.u32.wrap ((IntKind.u32.wrap (x4.getD ((w64 ((4 : Int) * x54)).toNat) (0 : Int))) * 2 ^ (min (24 : Int).toNat 32))) ||| BitVec.ofInt 32 (IntKind.u32.wrap ((IntKind.u32.wrap (x4.getD ((w64 ((w64 ((4 : Int) * x54)) + 1)).toNat) (0 : Int))) * 2 ^ (min (16 : Int).toNat 32)))).toNat)) ||| BitVec.ofInt 32 (IntKind.u32.wrap ((IntKind.u32.wrap (x4.getD ((w64 ((w64 ((4 : Int) * x54)) + (2 : Int))).toNat) (0 : Int))) * 2 ^ (min (8 : Int).toNat 32)))).toNat)) ||| BitVec.ofInt 32 (IntKind.u32.wrap (x4.getD ((w64 ((w64 ((4 : Int) * x54)) + (3 : Int))).toNat) (0 : Int)))).toNat))) x54) (none)) (none)) (none)) (none)) (none)) (none)) (none)) (none)) (ifb (decide (0 ≤ (w64 (x54 - (15 : Int)))) && decide ((w64 (x54 - (15 : Int))) < ((63 : Nat) : Int) + 1)) (ifb (decide (0 ≤ (w64 (x54 - (2 : Int)))) && decide ((w64 (x54 - (2 : Int))) < ((63 : Nat) : Int) + 1)) (ifb (decide (0 ≤ (w64 (x54 - (16 : Int)))) && decide ((w64 (x54 - (16 : Int))) < ((63 : Nat) : Int) + 1)) (ifb (decide (0 ≤ (w64 (x54 - (7 : Int)))) && decide ((w64 (x54 - (7 : Int))) < ((63 : Nat) : Int) + 1)) ((q3h.f k2 (x7.getD ((w64 (x54 - (15 : Int))).toNat) 0) (7 : Int)).bind fun (r0 : Int) => (q3h.f k2 (x7.getD ((w64 (x54 - (15 : Int))).toNat) 0) (18 : Int)).bind fun (r1 : Int) => ifb (decide (0 ≤ (3 : Int))) ((q3h.f k2 (x7.getD ((w64 (x54 - (2 : Int))).toNat) 0) (17 : Int)).bind fun (r2 : Int) => (q3h.f k2 (x7.getD ((w64 (x54 - (2 : Int))).toNat) 0) (19 : Int)).bind fun (r3 : Int) => ifb (decide (0 ≤ (10 : Int))) (ifb (decide (0 ≤ x54) && decide (x54 < ((63 : Nat) : Int) + 1)) (q00.J20 k k1 k2 k2 x3 x4 (x7.set x54.toNat (IntKind.u32.wrap ((IntKind.u32.wrap ((IntKind.u32.wrap ((x7.getD ((w64 (x54 - (16 : Int))).toNat) 0) + (x7.getD ((w64 (x54 - (7 : Int))).toNat) 0))) + (IntKind.u32.wrap ((BitVec.ofInt 32 (IntKind.u32.wrap ((BitVec.ofInt 32 r0 ^^^ BitVec.ofInt 32 r1).toNat)) ^^^ BitVec.ofInt 32 ((x7.getD ((w64 (x54 - (15 : Int))).toNat) 0).fdiv (2 ^ (min (3 : Int).toNat 32)))).toNat)))) + (IntKind.u32.wrap ((BitVec.ofInt 32 (IntKind.u32.wrap ((BitVec.ofInt 32 r2 ^^^ BitVec.ofInt 32 r3).toNat)) ^^^ BitVec.ofInt 32 ((x7.getD ((w64 (x54 - (2 : Int))).toNat) 0).fdiv (2 ^ (min (10 : Int).toNat 32)))).toNat))))) x54) (none)) (none)) (none)) (none)) (none)) (none)) (none))) (q00.L23 k k1 k1 x3 x4 x7 x3 (0 : Int)) := by kernel_rfl
theorem q00.L37_eq (k k1 : Nat) (x18 : List Int) (x226 : List Int) (x227 : Int) : q00.L37 k (k1 + 1) x18 x226 x227 = ifb (decide (x227 < (8 : Int))) (ifb (decide (0 ≤ x227) && decide (x227 < ((7 : Nat) : Int) + 1)) (ifb (decide (0 ≤ (24 : Int))) (ifb (decide (0 ≤ (16 : Int))) (ifb (decide (0 ≤ (8 : Int))) (ifb (decide ((x18.length + [(IntKind.u8.wrap ((x226.getD x227.toNat 0).fdiv (2 ^ (min (24 : Int).toNat 32)))), (IntKind.u8.wrap ((x226.getD x227.toNat 0).fdiv (2 ^ (min (16 : Int).toNat 32)))), (IntKind.u8.wrap ((x226.getD x227.toNat 0).fdiv (2 ^ (min (8 : Int).toNat 32)))), (IntKind.u8.wrap (x226.getD x227.toNat 0))].length) * 1 ≤ q1m)) (q00.L37 k k1 (x18 ++ [(IntKind.u8.wrap ((x226.getD x227.toNat 0).fdiv (2 ^ (min (24 : Int).toNat 32)))), (IntKind.u8.wrap ((x226.getD x227.toNat 0).fdiv (2 ^ (min (16 : Int).toNat 32)))), (IntKind.u8.wrap ((x226.getD x227.toNat 0).fdiv (2 ^ (min (8 : Int).toNat 32)))), (IntKind.u8.wrap (x226.getD x227.toNat 0))]) x226 (w64 (x227 + 1))) (none)) (none)) (none)) (none)) (none)) (some (strOf x18)) := by kernel_rfl
theorem q00.J20_eq (k k1 k2 k3 : Nat) (x3 : List Int) (x4 : List Int) (x7 : List Int) (x54 : Int) : q00.J20 k k1 k2 (k3 + 1) x3 x4 x7 x54 = q00.L14 k k1 k2 x3 x4 x7 (w64 (x54 + 1)) := by kernel_rfl
theorem q00.L23_eq (k k1 k2 : Nat) (x3 : List Int) (x4 : List Int) (x7 : List Int) (x11 : List Int) (x133 : Int) : q00.L23 k k1 (k2 + 1) x3 x4 x7 x11 x133 = ifb (decide (x133 < (64 : Int))) (ifb (decide (0 ≤ (4 : Int)) && decide ((4 : Int) < ((7 : Nat) : Int) + 1)) (ifb (decide (0 ≤ (0 : Int)) && decide ((0 : Int) < ((7 : Nat) : Int) + 1)) (ifb (decide (0 ≤ (7 : Int)) && decide ((7 : Int) < ((7 : Nat) : Int) + 1)) ((q3h.f k2 (x11.getD ((4 : Int).toNat) 0) (6 : Int)).bind fun (r4 : Int) => (q3h.f k2 (x11.getD ((4 : Int).toNat) 0) (11 : Int)).bind fun (r5 : Int) => (q3h.f k2 (x11.getD ((4 : Int).toNat) 0) (25 : Int)).bind fun (r6 : Int) => ifb (decide (0 ≤ (5 : Int)) && decide ((5 : Int) < ((7 : Nat) : Int) + 1)) (ifb (decide (0 ≤ (6 : Int)) && decide ((6 : Int) < ((7 : Nat) : Int) + 1)) (ifb (decide (0 ≤ x133) && decide (x133 < ((63 : Nat) : Int) + 1)) (ifb (decide (0 ≤ x133) && decide (x133 < ((63 : Nat) : Int) + 1)) (q00.J27 k k1 k2 k2 x3 x4 x7 x11 (x11.getD ((4 : Int).toNat) 0) (x11.getD ((0 : Int).toNat) 0) (IntKind.u32.wrap ((IntKind.u32.wrap ((IntKind.u32.wrap ((IntKind.u32.wrap ((x11.getD ((7 : Int).toNat) 0) + (IntKind.u32.wrap ((BitVec.ofInt 32 (IntKind.u32.wrap ((BitVec.ofInt 32 r4 ^^^ BitVec.ofInt 32 r5).toNat)) ^^^ BitVec.ofInt 32 r6).toNat)))) + (IntKind.u32.wrap ((BitVec.ofInt 32 (IntKind.u32.wrap ((BitVec.ofInt 32 (x11.getD ((4 : Int).toNat) 0) &&& BitVec.ofInt 32 (x11.getD ((5 : Int).toNat) 0)).toNat)) ^^^ BitVec.ofInt 32 (IntKind.u32.wrap ((BitVec.ofInt 32 (cpl .u32 (x11.getD ((4 : Int).toNat) 0)) &&& BitVec.ofInt 32 (x11.getD ((6 : Int).toNat) 0)).toNat))).toNat)))) + (q6r.getD x133.toNat 0))) + (x7.getD x133.toNat 0))) x133) (none)) (none)) (none)) (none)) (none)) (none)) (none)) (q00.L31 k k1 k1 x3 x4 x11 (0 : Int)) := by kernel_rfl
theorem q00.J27_eq (k k1 k2 k3 : Nat) (x3 : List Int) (x4 : List Int) (x7 : List Int) (x11 : List Int) (x13 : Int) (x14 : Int) (x15 : Int) (x133 : Int) : q00.J27 k k1 k2 (k3 + 1) x3 x4 x7 x11 x13 x14 x15 x133 = (q3h.f k3 x14 (2 : Int)).bind fun (r7 : Int) => (q3h.f k3 x14 (13 : Int)).bind fun (r8 : Int) => (q3h.f k3 x14 (22 : Int)).bind fun (r9 : Int) => ifb (decide (0 ≤ (1 : Int)) && decide ((1 : Int) < ((7 : Nat) : Int) + 1)) (ifb (decide (0 ≤ (2 : Int)) && decide ((2 : Int) < ((7 : Nat) : Int) + 1)) (ifb (decide (0 ≤ (1 : Int)) && decide ((1 : Int) < ((7 : Nat) : Int) + 1)) (ifb (decide (0 ≤ (2 : Int)) && decide ((2 : Int) < ((7 : Nat) : Int) + 1)) (q00.J28 k k1 k2 k3 x3 x4 x7 x11 x13 x14 x15 (IntKind.u32.wrap ((IntKind.u32.wrap ((BitVec.ofInt 32 (IntKind.u32.wrap ((BitVec.ofInt 32 r7 ^^^ BitVec.ofInt 32 r8).toNat)) ^^^ BitVec.ofInt 32 r9).toNat)) + (IntKind.u32.wrap ((BitVec.ofInt 32 (IntKind.u32.wrap ((BitVec.ofInt 32 (IntKind.u32.wrap ((BitVec.ofInt 32 x14 &&& BitVec.ofInt 32 (x11.getD ((1 : Int).toNat) 0)).toNat)) ^^^ BitVec.ofInt 32 (IntKind.u32.wrap ((BitVec.ofInt 32 x14 &&& BitVec.ofInt 32 (x11.getD ((2 : Int).toNat) 0)).toNat))).toNat)) ^^^ BitVec.ofInt 32 (IntKind.u32.wrap ((BitVec.ofInt 32 (x11.getD ((1 : Int).toNat) 0) &&& BitVec.ofInt 32 (x11.getD ((2 : Int).toNat) 0)).toNat))).toNat)))) x133) (none)) (none)) (none)) (none) := by kernel_rfl
theorem q00.L31_eq (k k1 k2 : Nat) (x3 : List Int) (x4 : List Int) (x11 : List Int) (x213 : Int) : q00.L31 k k1 (k2 + 1) x3 x4 x11 x213 = ifb (decide (x213 < (8 : Int))) (ifb (decide (0 ≤ x213) && decide (x213 < ((7 : Nat) : Int) + 1)) (ifb (decide (0 ≤ x213) && decide (x213 < ((7 : Nat) : Int) + 1)) (ifb (decide (0 ≤ x213) && decide (x213 < ((7 : Nat) : Int) + 1)) (q00.L31 k k1 k2 (x3.set x213.toNat (IntKind.u32.wrap ((x3.getD x213.toNat 0) + (x11.getD x213.toNat 0)))) x4 x11 (w64 (x213 + 1))) (none)) (none)) (none)) (ifb (decide (0 ≤ (64 : Int)) && (decide ((64 : Int) ≤ (x4.length : Int)) && decide ((x4.length : Int) ≤ (x4.length : Int)))) (q00.L10 k k1 x3 ((x4.take (x4.length : Int).toNat).drop (64 : Int).toNat)) (none)) := by kernel_rfl
theorem q00.J28_eq (k k1 k2 k3 : Nat) (x3 : List Int) (x4 : List Int) (x7 : List Int) (x11 : List Int) (x13 : Int) (x14 : Int) (x15 : Int) (x16 : Int) (x133 : Int) : q00.J28 k k1 k2 (k3 + 1) x3 x4 x7 x11 x13 x14 x15 x16 x133 = ifb (decide (0 ≤ (1 : Int)) && decide ((1 : Int) < ((7 : Nat) : Int) + 1)) (ifb (decide (0 ≤ (2 : Int)) && decide ((2 : Int) < ((7 : Nat) : Int) + 1)) (ifb (decide (0 ≤ (3 : Int)) && decide ((3 : Int) < ((7 : Nat) : Int) + 1)) (ifb (decide (0 ≤ (5 : Int)) && decide ((5 : Int) < ((7 : Nat) : Int) + 1)) (ifb (decide (0 ≤ (6 : Int)) && decide ((6 : Int) < ((7 : Nat) : Int) + 1)) (q00.L23 k k1 k2 x3 x4 x7 [(IntKind.u32.wrap (x15 + x16)), x14, (x11.getD ((1 : Int).toNat) 0), (x11.getD ((2 : Int).toNat) 0), (IntKind.u32.wrap ((x11.getD ((3 : Int).toNat) 0) + x15)), x13, (x11.getD ((5 : Int).toNat) 0), (x11.getD ((6 : Int).toNat) 0)] (w64 (x133 + 1))) (none)) (none)) (none)) (none)) (none) := by kernel_rfl
abbrev q00.e (k : Nat) : FuncId × CE := (151, ⟨q00.ps, q00.rs, q00.F k⟩)
theorem q00.q (k : Nat) : Qs (q00.e k) := qq (C := q00.C) (fun k => .c (q3h.q k) <| .nil) k
def q39.C (k : Nat) : CEs := []
abbrev q39.ps : List Par := [⟨.str, .rd⟩]
abbrev q39.rs : List Res := [⟨.str, .ro, false⟩]
def q39.H : q4u := [(3, [(0, .ro), (3, (.own .ro)), (4, .ro)])]
def q39.F := q4v E q39.C q39.H Tryz.f150 q39.ps q39.rs
def q39.L3 (k k1 : Nat) (x0 : ByteArray) (x3 : List Int) (x4 : Int) : Option (ByteArray) := atL E q39.C q39.H Tryz.f150 q39.ps q39.rs [true, true, false, true, true] k [] k1 (sh 27 [(0, .d .str x0 .ro), (3, .d t34 x3 (.own .ro)), (4, .d (.int .i64) x4 .ro)])
def q39.f (k : Nat) (x0 : ByteArray) : Option (ByteArray) := q39.F k x0
theorem q39.f_eq (k : Nat) (x0 : ByteArray) : q39.f k x0 = q39.L3 k k x0 ([] : List Int) (0 : Int) := by kernel_rfl
theorem q39.L3_eq (k k1 : Nat) (x0 : ByteArray) (x3 : List Int) (x4 : Int) : q39.L3 k (k1 + 1) x0 x3 x4 = ifb (decide (x4 < (x0.size : Int))) (ifb (decide (0 ≤ x4) && decide (x4 < (x0.size : Int))) (ifb (decide ((16 : Int) ≠ 0)) (ifb (decide (0 ≤ (IntKind.u8.wrap ((q38 x0 x4).tdiv (16 : Int)))) && decide ((IntKind.u8.wrap ((q38 x0 x4).tdiv (16 : Int))) < ((⟨#[48, 49, 50, 51, 52, 53, 54, 55, 56, 57, 97, 98, 99, 100, 101, 102]⟩ : ByteArray).size : Int))) (ifb (decide (0 ≤ x4) && decide (x4 < (x0.size : Int))) (ifb (decide ((16 : Int) ≠ 0)) (ifb (decide (0 ≤ ((q38 x0 x4).tmod (16 : Int))) && decide (((q38 x0 x4).tmod (16 : Int)) < ((⟨#[48, 49, 50, 51, 52, 53, 54, 55, 56, 57, 97, 98, 99, 100, 101, 102]⟩ : ByteArray).size : Int))) (ifb (decide ((x3.length + [(q38 (⟨#[48, 49, 50, 51, 52, 53, 54, 55, 56, 57, 97, 98, 99, 100, 101, 102]⟩ : ByteArray) (IntKind.u8.wrap ((q38 x0 x4).tdiv (16 : Int)))), (q38 (⟨#[48, 49, 50, 51, 52, 53, 54, 55, 56, 57, 97, 98, 99, 100, 101, 102]⟩ : ByteArray) ((q38 x0 x4).tmod (16 : Int)))].length) * 1 ≤ q1m)) (q39.L3 k k1 x0 (x3 ++ [(q38 (⟨#[48, 49, 50, 51, 52, 53, 54, 55, 56, 57, 97, 98, 99, 100, 101, 102]⟩ : ByteArray) (IntKind.u8.wrap ((q38 x0 x4).tdiv (16 : Int)))), (q38 (⟨#[48, 49, 50, 51, 52, 53, 54, 55, 56, 57, 97, 98, 99, 100, 101, 102]⟩ : ByteArray) ((q38 x0 x4).tmod (16 : Int)))]) (w64 (x4 + 1))) (none)) (none)) (none)) (none)) (none)) (none)) (none)) (some (strOf x3)) := by kernel_rfl
abbrev q39.e (k : Nat) : FuncId × CE := (150, ⟨q39.ps, q39.rs, q39.F k⟩)
theorem q39.q (k : Nat) : Qs (q39.e k) := qq (C := q39.C) (fun k => .nil) k
def q49.C (k : Nat) : CEs := [q00.e k, q39.e k]
abbrev q49.ps : List Par := [⟨.str, .rd⟩]
abbrev q49.rs : List Res := [⟨.str, .ro, false⟩]
def q49.F := q4v E q49.C [] Tryz.f88 q49.ps q49.rs
def q49.f (k : Nat) (x0 : ByteArray) : Option (ByteArray) := q49.F k x0
theorem q49.f_eq (k : Nat) (x0 : ByteArray) : q49.f k x0 = (q00.f k x0).bind fun (r0 : ByteArray) => (q39.f k r0).bind fun (r1 : ByteArray) => some r1 := by kernel_rfl
abbrev q49.e (k : Nat) : FuncId × CE := (88, ⟨q49.ps, q49.rs, q49.F k⟩)
theorem q49.q (k : Nat) : Qs (q49.e k) := qq (C := q49.C) (fun k => .c (q00.q k) <| .c (q39.q k) <| .nil) k
def q2i.C (k : Nat) : CEs := [q46.e k]
abbrev q2i.ps : List Par := [⟨(.row .str), .rd⟩, ⟨(.int .i64), .rd⟩]
abbrev q2i.rs : List Res := [⟨.bool, .ro, false⟩]
def q2i.H : q4u := [(2, [(0, .ro), (1, .ro), (7, .ro), (8, .ro), (9, .ro)])]
def q2i.F := q4v E q2i.C q2i.H Tryz.f191 q2i.ps q2i.rs
def q2i.L2 (k k1 : Nat) (x0 : List ByteArray) (x1 : Int) (x7 : List ByteArray) (x8 : Int) (x9 : Int) : Option (Bool) := atL E q2i.C q2i.H Tryz.f191 q2i.ps q2i.rs [true, false, true, true] k [] k1 (sh 35 [(0, .d (.row .str) x0 .ro), (1, .d (.int .i64) x1 .ro), (7, .d (.row .str) x7 .ro), (8, .d (.int .i64) x8 .ro), (9, .d (.int .i64) x9 .ro)])
def q2i.f (k : Nat) (x0 : List ByteArray) (x1 : Int) : Option (Bool) := q2i.F k (x0, x1)
theorem q2i.f_eq (k : Nat) (x0 : List ByteArray) (x1 : Int) : q2i.f k x0 x1 = q2i.L2 k k x0 x1 x0 (x0.length : Int) (0 : Int) := by kernel_rfl
theorem q2i.L2_eq (k k1 : Nat) (x0 : List ByteArray) (x1 : Int) (x7 : List ByteArray) (x8 : Int) (x9 : Int) : q2i.L2 k (k1 + 1) x0 x1 x7 x8 x9 = ifb (decide (x9 < x8)) (ifb (decide (0 ≤ x9) && decide (x9 < (x7.length : Int))) ((q46.f k1 (x7.getD x9.toNat bz)).bind fun (r0 : Bool) => ifb (!r0) (some false) (ifb (decide (x9 > 0)) (ifb (decide (0 ≤ (w64 (x9 - 1))) && decide ((w64 (x9 - 1)) < (x0.length : Int))) (ifb (!(Op.bytesLess (x0.getD ((w64 (x9 - 1)).toNat) bz).toList (x7.getD x9.toNat bz).toList)) (some false) (q2i.L2 k k1 x0 x1 x7 x8 (w64 (x9 + 1)))) (none)) (q2i.L2 k k1 x0 x1 x7 x8 (w64 (x9 + 1))))) (none)) (some (decide ((x0.length : Int) ≤ x1))) := by kernel_rfl
abbrev q2i.e (k : Nat) : FuncId × CE := (191, ⟨q2i.ps, q2i.rs, q2i.F k⟩)
theorem q2i.q (k : Nat) : Qs (q2i.e k) := qq (C := q2i.C) (fun k => .c (q46.q k) <| .nil) k
def q1f.C (k : Nat) : CEs := [q3f.e k, q1a.e k, q15.e k, q2i.e k]
abbrev q1f.ps : List Par := [⟨t25, .rd⟩]
abbrev q1f.rs : List Res := [⟨.bool, .ro, false⟩]
def q1f.H : q4u := [(4, [(1, .ro), (33, .ro), (34, .ro), (35, .ro)])]
def q1f.F := q4v E q1f.C q1f.H Tryz.f129 q1f.ps q1f.rs
def q1f.L4 (k k1 : Nat) (x1 : Delta) (x33 : List ByteArray) (x34 : Int) (x35 : Int) : Option (Bool) := atL E q1f.C q1f.H Tryz.f129 q1f.ps q1f.rs [true, true, false, true, true] k [] k1 (sh 45 [(1, .box t25 x1 .ro none), (33, .d (.row .str) x33 .ro), (34, .d (.int .i64) x34 .ro), (35, .d (.int .i64) x35 .ro)])
def q1f.f (k : Nat) (x0 : Delta) : Option (Bool) := q1f.F k x0
theorem q1f.f_eq (k : Nat) (x0 : Delta) : q1f.f k x0 = (q2i.f k x0.1 (24 : Int)).bind fun (r0 : Bool) => ifb (!r0) (some false) ((q15.f k x0.2.1).bind fun (r1 : Bool) => ifb (!r1) (some false) ((q1a.f k x0.2.2.2).bind fun (r2 : Bool) => ifb (!r2) (some false) (ifb (!x0.2.2.1) (ifb (decide ((x0.2.2.2.length : Int) > 0)) (some false) (q1f.L4 k k x0 x0.1 (x0.1.length : Int) (0 : Int))) (q1f.L4 k k x0 x0.1 (x0.1.length : Int) (0 : Int))))) := by kernel_rfl
theorem q1f.L4_eq (k k1 : Nat) (x1 : Delta) (x33 : List ByteArray) (x34 : Int) (x35 : Int) : q1f.L4 k (k1 + 1) x1 x33 x34 x35 = ifb (decide (x35 < x34)) (ifb (decide (0 ≤ x35) && decide (x35 < (x33.length : Int))) ((q3f.f k1 x1.2.1 (x33.getD x35.toNat bz)).bind fun (r3 : Int) => ifb (decide (r3 ≥ (0 : Int))) (some false) (q1f.L4 k k1 x1 x33 x34 (w64 (x35 + 1)))) (none)) (some true) := by kernel_rfl
abbrev q1f.e (k : Nat) : FuncId × CE := (129, ⟨q1f.ps, q1f.rs, q1f.F k⟩)
theorem q1f.q (k : Nat) : Qs (q1f.e k) := qq (C := q1f.C) (fun k => .c (q3f.q k) <| .c (q1a.q k) <| .c (q15.q k) <| .c (q2i.q k) <| .nil) k
def q0d.C (k : Nat) : CEs := [q1b.e k, q3a.e k, q1f.e k]
abbrev q0d.ps : List Par := [⟨t25, .rd⟩]
abbrev q0d.rs : List Res := [⟨.str, .ro, false⟩]
def q0d.H : q4u := [(6, [(1, .ro), (3, .ro)]), (7, [(1, .ro), (3, .ro), (16, .ro), (17, .ro), (18, .ro)]), (12, [(1, .ro), (3, .ro), (28, .ro), (29, .ro), (30, .ro)]), (17, [(3, .ro), (41, .ro), (42, .ro), (43, .ro)])]
def q0d.F := q4v E q0d.C q0d.H Tryz.f130 q0d.ps q0d.rs
def q0d.J6 (k : Nat) (x1 : Delta) (x3 : ByteArray) : Option (ByteArray) := atJ E q0d.C q0d.H Tryz.f130 q0d.ps q0d.rs [true, true, true, true] 0 [] k (sh 54 [(1, .box t25 x1 .ro none), (3, .d .str x3 .ro)])
def q0d.L7 (k k1 : Nat) (x1 : Delta) (x3 : ByteArray) (x16 : List Aff) (x17 : Int) (x18 : Int) : Option (ByteArray) := atL E q0d.C q0d.H Tryz.f130 q0d.ps q0d.rs [true, true, true, true, false, true, true] 0 [k] k1 (sh 54 [(1, .box t25 x1 .ro none), (3, .d .str x3 .ro), (16, .d t24 x16 .ro), (17, .d (.int .i64) x17 .ro), (18, .d (.int .i64) x18 .ro)])
def q0d.L12 (k k1 : Nat) (x1 : Delta) (x3 : ByteArray) (x28 : List ByteArray) (x29 : Int) (x30 : Int) : Option (ByteArray) := atL E q0d.C q0d.H Tryz.f130 q0d.ps q0d.rs [true, true, true, true, true, false, true, true] 0 [k] k1 (sh 54 [(1, .box t25 x1 .ro none), (3, .d .str x3 .ro), (28, .d (.row .str) x28 .ro), (29, .d (.int .i64) x29 .ro), (30, .d (.int .i64) x30 .ro)])
def q0d.L17 (k k1 : Nat) (x3 : ByteArray) (x41 : List En) (x42 : Int) (x43 : Int) : Option (ByteArray) := atL E q0d.C q0d.H Tryz.f130 q0d.ps q0d.rs [true, true, true, true, true, true, false, true, true] 0 [k] k1 (sh 54 [(3, .d .str x3 .ro), (41, .d t23 x41 .ro), (42, .d (.int .i64) x42 .ro), (43, .d (.int .i64) x43 .ro)])
def q0d.f (k : Nat) (x0 : Delta) : Option (ByteArray) := q0d.F k x0
theorem q0d.f_eq (k : Nat) (x0 : Delta) : q0d.f k x0 = (q1f.f k x0).bind fun (r0 : Bool) => ifb (!r0) (some bz) (ifb x0.2.2.1 (q0d.J6 k x0 (⟨#[97, 102, 102, 105, 120, 101, 115, 10]⟩ : ByteArray)) (q0d.J6 k x0 bz)) := by kernel_rfl
theorem q0d.J6_eq (k : Nat) (x1 : Delta) (x3 : ByteArray) : q0d.J6 (k + 1) x1 x3 = q0d.L7 k k x1 x3 x1.2.2.2 (x1.2.2.2.length : Int) (0 : Int) := by kernel_rfl
theorem q0d.L7_eq (k k1 : Nat) (x1 : Delta) (x3 : ByteArray) (x16 : List Aff) (x17 : Int) (x18 : Int) : q0d.L7 k (k1 + 1) x1 x3 x16 x17 x18 = ifb (decide (x18 < x17)) (ifb (decide (0 ≤ x18) && decide (x18 < (x16.length : Int))) ((q1b.f k1 (x16.getD x18.toNat zA)).bind fun (r1 : ByteArray) => ifb (q5x (x3.size + r1.size)) (q0d.L7 k k1 x1 (x3 ++ r1) x16 x17 (w64 (x18 + 1))) (none)) (none)) (q0d.L12 k k x1 x3 x1.1 (x1.1.length : Int) (0 : Int)) := by kernel_rfl
theorem q0d.L12_eq (k k1 : Nat) (x1 : Delta) (x3 : ByteArray) (x28 : List ByteArray) (x29 : Int) (x30 : Int) : q0d.L12 k (k1 + 1) x1 x3 x28 x29 x30 = ifb (decide (x30 < x29)) (ifb (decide (0 ≤ x30) && decide (x30 < (x28.length : Int))) (ifb (q5x ((⟨#[45]⟩ : ByteArray).size + (x28.getD x30.toNat bz).size)) (ifb (q5x (((⟨#[45]⟩ : ByteArray) ++ (x28.getD x30.toNat bz)).size + (⟨#[10]⟩ : ByteArray).size)) (ifb (q5x (x3.size + (((⟨#[45]⟩ : ByteArray) ++ (x28.getD x30.toNat bz)) ++ (⟨#[10]⟩ : ByteArray)).size)) (q0d.L12 k k1 x1 (x3 ++ (((⟨#[45]⟩ : ByteArray) ++ (x28.getD x30.toNat bz)) ++ (⟨#[10]⟩ : ByteArray))) x28 x29 (w64 (x30 + 1))) (none)) (none)) (none)) (none)) (q0d.L17 k k x3 x1.2.1 (x1.2.1.length : Int) (0 : Int)) := by kernel_rfl
theorem q0d.L17_eq (k k1 : Nat) (x3 : ByteArray) (x41 : List En) (x42 : Int) (x43 : Int) : q0d.L17 k (k1 + 1) x3 x41 x42 x43 = ifb (decide (x43 < x42)) (ifb (decide (0 ≤ x43) && decide (x43 < (x41.length : Int))) ((q3a.f k1 (x41.getD x43.toNat zE)).bind fun (r2 : ByteArray) => ifb (q5x ((⟨#[43]⟩ : ByteArray).size + r2.size)) (ifb (q5x (x3.size + ((⟨#[43]⟩ : ByteArray) ++ r2).size)) (q0d.L17 k k1 (x3 ++ ((⟨#[43]⟩ : ByteArray) ++ r2)) x41 x42 (w64 (x43 + 1))) (none)) (none)) (none)) (some x3) := by kernel_rfl
abbrev q0d.e (k : Nat) : FuncId × CE := (130, ⟨q0d.ps, q0d.rs, q0d.F k⟩)
theorem q0d.q (k : Nat) : Qs (q0d.e k) := qq (C := q0d.C) (fun k => .c (q1b.q k) <| .c (q3a.q k) <| .c (q1f.q k) <| .nil) k
abbrev strconv_Itoa.e (k : Nat) : FuncId × CE := (139, ⟨strconv_Itoa.ps, strconv_Itoa.rs, strconv_Itoa.F k⟩)
theorem strconv_Itoa.q (k : Nat) : Qs (strconv_Itoa.e k) := ⟨strconv_Itoa.snd k, strconv_Itoa.can⟩
def q1c.C (k : Nat) : CEs := [strconv_Itoa.e k, q0d.e k]
abbrev q1c.ps : List Par := [⟨t27, .rd⟩]
abbrev q1c.rs : List Res := [⟨.str, .ro, false⟩]
def q1c.F := q4v E q1c.C [] Tryz.f75 q1c.ps q1c.rs
def q1c.f (k : Nat) (x0 : Release) : Option (ByteArray) := q1c.F k x0
theorem q1c.f_eq (k : Nat) (x0 : Release) : q1c.f k x0 = (strconv_Itoa.f k x0.1).bind fun (r0 : ByteArray) => ifb (q5x ((⟨#[114, 101, 108, 101, 97, 115, 101, 32]⟩ : ByteArray).size + r0.size)) (ifb (q5x (((⟨#[114, 101, 108, 101, 97, 115, 101, 32]⟩ : ByteArray) ++ r0).size + (⟨#[32]⟩ : ByteArray).size)) (ifb (q5x ((((⟨#[114, 101, 108, 101, 97, 115, 101, 32]⟩ : ByteArray) ++ r0) ++ (⟨#[32]⟩ : ByteArray)).size + x0.2.2.1.size)) (ifb (q5x (((((⟨#[114, 101, 108, 101, 97, 115, 101, 32]⟩ : ByteArray) ++ r0) ++ (⟨#[32]⟩ : ByteArray)) ++ x0.2.2.1).size + (⟨#[10]⟩ : ByteArray).size)) ((q0d.f k x0.2.1).bind fun (r1 : ByteArray) => ifb (q5x ((((((⟨#[114, 101, 108, 101, 97, 115, 101, 32]⟩ : ByteArray) ++ r0) ++ (⟨#[32]⟩ : ByteArray)) ++ x0.2.2.1) ++ (⟨#[10]⟩ : ByteArray)).size + r1.size)) (some ((((((⟨#[114, 101, 108, 101, 97, 115, 101, 32]⟩ : ByteArray) ++ r0) ++ (⟨#[32]⟩ : ByteArray)) ++ x0.2.2.1) ++ (⟨#[10]⟩ : ByteArray)) ++ r1)) (none)) (none)) (none)) (none)) (none) := by kernel_rfl
abbrev q1c.e (k : Nat) : FuncId × CE := (75, ⟨q1c.ps, q1c.rs, q1c.F k⟩)
theorem q1c.q (k : Nat) : Qs (q1c.e k) := qq (C := q1c.C) (fun k => .c (strconv_Itoa.q k) <| .c (q0d.q k) <| .nil) k
def q1q.C (k : Nat) : CEs := [q00.e k]
abbrev q1q.ps : List Par := [⟨.str, .rd⟩, ⟨.str, .rd⟩]
abbrev q1q.rs : List Res := [⟨.str, .ro, false⟩]
def q1q.H : q4u := [(3, [(0, .ro), (1, .ro)]), (7, [(1, .ro), (5, (.own .ro)), (6, (.own .ro)), (22, .ro), (23, .ro)])]
def q1q.F := q4v E q1q.C q1q.H Tryz.f154 q1q.ps q1q.rs
def q1q.J3 (k : Nat) (x0 : ByteArray) (x1 : ByteArray) : Option (ByteArray) := atJ E q1q.C q1q.H Tryz.f154 q1q.ps q1q.rs [true, true] 0 [] k (sh 48 [(0, .d .str x0 .ro), (1, .d .str x1 .ro)])
def q1q.L7 (k k1 : Nat) (x1 : ByteArray) (x5 : List Int) (x6 : List Int) (x22 : Int) (x23 : Int) : Option (ByteArray) := atL E q1q.C q1q.H Tryz.f154 q1q.ps q1q.rs [true, true, true, true, true, false, true, true] 0 [k] k1 (sh 48 [(1, .d .str x1 .ro), (5, .d t34 x5 (.own .ro)), (6, .d t34 x6 (.own .ro)), (22, .d (.int .i64) x22 .ro), (23, .d (.int .i64) x23 .ro)])
def q1q.f (k : Nat) (x0 : ByteArray) (x1 : ByteArray) : Option (ByteArray) := q1q.F k (x0, x1)
theorem q1q.f_eq (k : Nat) (x0 : ByteArray) (x1 : ByteArray) : q1q.f k x0 x1 = ifb (decide ((x0.size : Int) > (64 : Int))) ((q00.f k x0).bind fun (r0 : ByteArray) => q1q.J3 k r0 x1) (q1q.J3 k x0 x1) := by kernel_rfl
theorem q1q.J3_eq (k : Nat) (x0 : ByteArray) (x1 : ByteArray) : q1q.J3 (k + 1) x0 x1 = ifb (decide (0 ≤ (64 : Int)) && (decide ((64 : Int) ≤ (64 : Int)) && decide ((64 : Int) * 1 ≤ (q1m : Int)))) (ifb (decide (0 ≤ (64 : Int)) && (decide ((64 : Int) ≤ (64 : Int)) && decide ((64 : Int) * 1 ≤ (q1m : Int)))) (q1q.L7 k k x1 ((bytesOf x0).take (List.replicate (64 : Int).toNat (0 : Int)).length ++ (List.replicate (64 : Int).toNat (0 : Int)).drop x0.size) ((bytesOf x0).take (List.replicate (64 : Int).toNat (0 : Int)).length ++ (List.replicate (64 : Int).toNat (0 : Int)).drop x0.size) (((bytesOf x0).take (List.replicate (64 : Int).toNat (0 : Int)).length ++ (List.replicate (64 : Int).toNat (0 : Int)).drop x0.size).length : Int) (0 : Int)) (none)) (none) := by kernel_rfl
theorem q1q.L7_eq (k k1 : Nat) (x1 : ByteArray) (x5 : List Int) (x6 : List Int) (x22 : Int) (x23 : Int) : q1q.L7 k (k1 + 1) x1 x5 x6 x22 x23 = ifb (decide (x23 < x22)) (ifb (decide (0 ≤ x23) && decide (x23 < (x5.length : Int))) (ifb (decide (0 ≤ x23) && decide (x23 < (x5.length : Int))) (ifb (decide (0 ≤ x23) && decide (x23 < (x6.length : Int))) (ifb (decide (0 ≤ x23) && decide (x23 < (x6.length : Int))) (q1q.L7 k k1 x1 (x5.set x23.toNat (IntKind.u8.wrap ((BitVec.ofInt 8 (x5.getD x23.toNat (0 : Int)) ^^^ BitVec.ofInt 8 (54 : Int)).toNat))) (x6.set x23.toNat (IntKind.u8.wrap ((BitVec.ofInt 8 (x6.getD x23.toNat (0 : Int)) ^^^ BitVec.ofInt 8 (92 : Int)).toNat))) x22 (w64 (x23 + 1))) (none)) (none)) (none)) (none)) (ifb (q5x ((strOf x5).size + x1.size)) ((q00.f k ((strOf x5) ++ x1)).bind fun (r1 : ByteArray) => ifb (q5x ((strOf x6).size + r1.size)) ((q00.f k ((strOf x6) ++ r1)).bind fun (r2 : ByteArray) => some r2) (none)) (none)) := by kernel_rfl
abbrev q1q.e (k : Nat) : FuncId × CE := (154, ⟨q1q.ps, q1q.rs, q1q.F k⟩)
theorem q1q.q (k : Nat) : Qs (q1q.e k) := qq (C := q1q.C) (fun k => .c (q00.q k) <| .nil) k
def q4l.C (k : Nat) : CEs := [q3q.e k, q39.e k, q1q.e k]
abbrev q4l.ps : List Par := [⟨.str, .rd⟩, ⟨.str, .rd⟩]
abbrev q4l.rs : List Res := [⟨.str, .ro, false⟩]
def q4l.F := q4v E q4l.C [] Tryz.f90 q4l.ps q4l.rs
def q4l.f (k : Nat) (x0 : ByteArray) (x1 : ByteArray) : Option (ByteArray) := q4l.F k (x0, x1)
theorem q4l.f_eq (k : Nat) (x0 : ByteArray) (x1 : ByteArray) : q4l.f k x0 x1 = (q3q.f k x0).bind fun (r0 : Bool) => ifb (!r0) (some bz) ((q1q.f k x0 x1).bind fun (r1 : ByteArray) => (q39.f k r1).bind fun (r2 : ByteArray) => some r2) := by kernel_rfl
abbrev q4l.e (k : Nat) : FuncId × CE := (90, ⟨q4l.ps, q4l.rs, q4l.F k⟩)
theorem q4l.q (k : Nat) : Qs (q4l.e k) := qq (C := q4l.C) (fun k => .c (q3q.q k) <| .c (q39.q k) <| .c (q1q.q k) <| .nil) k
end
end Go.Proofs.YtjfkeknnjjlepaaGreatDoor.Rf
end

section
/- strings.Trim: by a set of plain bytes. -/
namespace Go.Proofs.YtjfkeknnjjlepaaGreatDoor.Rf
open Go Go.RowKit
set_option linter.unusedVariables false
set_option linter.unusedSimpArgs false
abbrev q4a.ps : List Par := [⟨.str, .rd⟩, ⟨.str, .rd⟩]
abbrev q4a.rs : List Res := [⟨.str, .ro, false⟩]
def q4a.F (_ : Nat) (x : ByteArray × ByteArray) : Option ByteArray := if x.1.size ≤ 9223372036854775807 ∧ x.2.size < 4294967281 ∧ x.2.data.toList.all (fun b => decide (b.toNat < 128)) = true then some (⟨(Lib.trimS x.1.data.toList x.2.data.toList).toArray⟩ : ByteArray) else none
def q4a.f (k : Nat) (s t : ByteArray) : Option ByteArray := q4a.F k (s, t)
theorem q4a.can : Can Tryz.prog 196 := q9t (fn := Tryz.f196) (by kernel_rfl) (by kernel_rfl) (by kernel_rfl)
theorem q4a.snd (k : Nat) : Snd Tryz.prog Jp 196 ⟨q4a.ps, q4a.rs, q4a.F k⟩ := by
  refine qdv rfl ?_
  rintro ⟨s, c⟩ r hr ξ w vs wf hj hsz ha
  simp only [q4a.F] at hr
  split at hr
  case isFalse => cases hr
  rename_i h
  obtain rfl := Option.some.inj hr
  obtain ⟨T0, h0⟩ := ha 0 _ _ rfl rfl
  obtain ⟨T1, h1⟩ := ha 1 _ _ rfl rfl
  obtain rfl := qgv hsz (q8k (by simp) h0) (q8k (by simp) h1)
  refine (Go.Proofs.Any.strings_Trim_laid Go.Proofs.Tryz.lays160 (by kernel_rfl) s c w h.1 h.2.1 (Go.Proofs.ascii_of_all h.2.2)).mono ?_
  rintro e w' ⟨rfl, hb⟩
  exact ⟨_, Em, rfl, hb, qjs _ _ _ _, fun b hb => hb.elim⟩
end Go.Proofs.YtjfkeknnjjlepaaGreatDoor.Rf
end

section
/- Functions of the program, told plainly, and their contracts: part A2. -/
namespace Go.Proofs.YtjfkeknnjjlepaaGreatDoor.Rf
open Go Go.RowKit
set_option linter.unusedVariables false
noncomputable section
abbrev q4a.e (k : Nat) : FuncId × CE := (196, ⟨q4a.ps, q4a.rs, q4a.F k⟩)
theorem q4a.q (k : Nat) : Qs (q4a.e k) := ⟨q4a.snd k, q4a.can⟩
def q4m.C (k : Nat) : CEs := [q4a.e k]
abbrev q4m.ps : List Par := [⟨.str, .rd⟩]
abbrev q4m.rs : List Res := [⟨.bool, .ro, false⟩]
def q4m.F := q4v E q4m.C [] Tryz.f138 q4m.ps q4m.rs
def q4m.f (k : Nat) (x0 : ByteArray) : Option (Bool) := q4m.F k x0
theorem q4m.f_eq (k : Nat) (x0 : ByteArray) : q4m.f k x0 = ifb ((x0.size : Int) == (64 : Int)) ((q4a.f k x0 (⟨#[48, 49, 50, 51, 52, 53, 54, 55, 56, 57, 97, 98, 99, 100, 101, 102]⟩ : ByteArray)).bind fun (r0 : ByteArray) => some (r0.toList == bz.toList)) (some false) := by kernel_rfl
abbrev q4m.e (k : Nat) : FuncId × CE := (138, ⟨q4m.ps, q4m.rs, q4m.F k⟩)
theorem q4m.q (k : Nat) : Qs (q4m.e k) := qq (C := q4m.C) (fun k => .c (q4a.q k) <| .nil) k
def q0h.C (k : Nat) : CEs := [q3g.e k, q1f.e k, q1c.e k, q4m.e k]
abbrev q0h.ps : List Par := [⟨t27, .rd⟩]
abbrev q0h.rs : List Res := [⟨.bool, .ro, false⟩]
def q0h.F := q4v E q0h.C [] Tryz.f74 q0h.ps q0h.rs
def q0h.f (k : Nat) (x0 : Release) : Option (Bool) := q0h.F k x0
theorem q0h.f_eq (k : Nat) (x0 : Release) : q0h.f k x0 = (q3g.f k x0.1 (1 : Int) (999999 : Int)).bind fun (r0 : Bool) => ifb r0 ((q1f.f k x0.2.1).bind fun (r1 : Bool) => ifb r1 ((q4m.f k x0.2.2.1).bind fun (r2 : Bool) => ifb r2 ((q4m.f k x0.2.2.2).bind fun (r3 : Bool) => ifb r3 ((q1c.f k x0).bind fun (r4 : ByteArray) => some (decide ((r4.size : Int) ≤ (1200 : Int)))) (some false)) (some false)) (some false)) (some false) := by kernel_rfl
abbrev q0h.e (k : Nat) : FuncId × CE := (74, ⟨q0h.ps, q0h.rs, q0h.F k⟩)
theorem q0h.q (k : Nat) : Qs (q0h.e k) := qq (C := q0h.C) (fun k => .c (q3g.q k) <| .c (q1f.q k) <| .c (q1c.q k) <| .c (q4m.q k) <| .nil) k
def q4w.C (k : Nat) : CEs := []
abbrev q4w.ps : List Par := [⟨(.int .i64), .rd⟩, ⟨(.int .i64), .rd⟩, ⟨(.int .i64), .rd⟩]
abbrev q4w.rs : List Res := [⟨.bool, .ro, false⟩]
def q4w.F := q4v E q4w.C [] Tryz.f92 q4w.ps q4w.rs
def q4w.f (k : Nat) (x0 : Int) (x1 : Int) (x2 : Int) : Option (Bool) := q4w.F k (x0, x1, x2)
theorem q4w.f_eq (k : Nat) (x0 : Int) (x1 : Int) (x2 : Int) : q4w.f k x0 x1 x2 = ifb (decide (x0 ≥ x1)) (some (decide (x0 ≤ x2))) (some false) := by kernel_rfl
abbrev q4w.e (k : Nat) : FuncId × CE := (92, ⟨q4w.ps, q4w.rs, q4w.F k⟩)
theorem q4w.q (k : Nat) : Qs (q4w.e k) := qq (C := q4w.C) (fun k => .nil) k
def q3r.C (k : Nat) : CEs := [q4w.e k]
abbrev q3r.ps : List Par := [⟨.str, .rd⟩]
abbrev q3r.rs : List Res := [⟨.bool, .ro, false⟩]
def q3r.F := q4v E q3r.C [] Tryz.f91 q3r.ps q3r.rs
def q3r.f (k : Nat) (x0 : ByteArray) : Option (Bool) := q3r.F k x0
theorem q3r.f_eq (k : Nat) (x0 : ByteArray) : q3r.f k x0 = (q4w.f k (x0.size : Int) (1 : Int) (64 : Int)).bind fun (r0 : Bool) => ifb r0 (ifb (decide (0 ≤ (w64 ((x0.size : Int) - 1))) && decide ((w64 ((x0.size : Int) - 1)) < (x0.size : Int))) (some ((q38 x0 (w64 ((x0.size : Int) - 1))) != (0 : Int))) (none)) (some false) := by kernel_rfl
abbrev q3r.e (k : Nat) : FuncId × CE := (91, ⟨q3r.ps, q3r.rs, q3r.F k⟩)
theorem q3r.q (k : Nat) : Qs (q3r.e k) := qq (C := q3r.C) (fun k => .c (q4w.q k) <| .nil) k
def q3t.C (k : Nat) : CEs := []
abbrev q3t.ps : List Par := [⟨.str, .rd⟩, ⟨.str, .rd⟩]
abbrev q3t.rs : List Res := [⟨.bool, .ro, false⟩]
def q3t.F := q4v E q3t.C [] Tryz.f252 q3t.ps q3t.rs
def q3t.f (k : Nat) (x0 : ByteArray) (x1 : ByteArray) : Option (Bool) := q3t.F k (x0, x1)
theorem q3t.f_eq (k : Nat) (x0 : ByteArray) (x1 : ByteArray) : q3t.f k x0 x1 = ifb (decide ((x0.size : Int) ≥ (x1.size : Int))) (ifb (decide (0 ≤ (0 : Int)) && (decide ((0 : Int) ≤ (x1.size : Int)) && decide ((x1.size : Int) ≤ (x0.size : Int)))) (some ((x0.extract (0 : Int).toNat (x1.size : Int).toNat).toList == x1.toList)) (none)) (some false) := by kernel_rfl
abbrev q3t.e (k : Nat) : FuncId × CE := (252, ⟨q3t.ps, q3t.rs, q3t.F k⟩)
theorem q3t.q (k : Nat) : Qs (q3t.e k) := qq (C := q3t.C) (fun k => .nil) k
def q4n.C (k : Nat) : CEs := []
abbrev q4n.ps : List Par := [⟨.str, .rd⟩, ⟨.str, .rd⟩]
abbrev q4n.rs : List Res := [⟨.bool, .ro, false⟩]
def q4n.F := q4v E q4n.C [] Tryz.f253 q4n.ps q4n.rs
def q4n.f (k : Nat) (x0 : ByteArray) (x1 : ByteArray) : Option (Bool) := q4n.F k (x0, x1)
theorem q4n.f_eq (k : Nat) (x0 : ByteArray) (x1 : ByteArray) : q4n.f k x0 x1 = ifb (decide ((x0.size : Int) ≥ (x1.size : Int))) (ifb (decide (0 ≤ (w64 ((x0.size : Int) - (x1.size : Int)))) && (decide ((w64 ((x0.size : Int) - (x1.size : Int))) ≤ (x0.size : Int)) && decide ((x0.size : Int) ≤ (x0.size : Int)))) (some ((x0.extract (w64 ((x0.size : Int) - (x1.size : Int))).toNat (x0.size : Int).toNat).toList == x1.toList)) (none)) (some false) := by kernel_rfl
abbrev q4n.e (k : Nat) : FuncId × CE := (253, ⟨q4n.ps, q4n.rs, q4n.F k⟩)
theorem q4n.q (k : Nat) : Qs (q4n.e k) := qq (C := q4n.C) (fun k => .nil) k
end
end Go.Proofs.YtjfkeknnjjlepaaGreatDoor.Rf
end

section
/- impl.sortEntries, walked by hand: its row holds the one sorted order, where stems are apart. -/
namespace Go.Proofs.YtjfkeknnjjlepaaGreatDoor.Rf
open Go Go.RowKit Go.Sort Go.Lib
set_option linter.unusedVariables false
set_option linter.unusedSimpArgs false
theorem qbq (s : ByteArray) (w : World) : Calls Tryz.prog 259 #[.string s] w fun e w' => e = .returned (.bool false) ∧ w' = w := by
  go_enter Tryz.func259, Tryz.ntmps259
  go_wp2
  go_ret
  exact ⟨by simp, rfl⟩
def qqg (x y : ByteArray) : Int := if Op.bytesLess x.toList y.toList = true then -1 else if (!(Op.bytesLess x.toList y.toList || x.toList == y.toList)) = true then 1 else 0
theorem qi6 (x y : ByteArray) (w : World) : Calls Tryz.prog 217 #[.string x, .string y] w fun e w' => e = .returned (.int .i64 (qqg x y)) ∧ w' = w := by
  unfold qqg
  cases h1 : Op.bytesLess x.toList y.toList
  · cases h2 : (x.toList == y.toList)
    · go_enter Tryz.func217, Tryz.ntmps217
      go_wp2_with (go_at_call 259; refine (qbq _ _).mono ?_; rintro e w' ⟨rfl, rfl⟩)
      go_ret
      exact ⟨by simp, rfl⟩
    · go_enter Tryz.func217, Tryz.ntmps217
      go_wp2_with (go_at_call 259; refine (qbq _ _).mono ?_; rintro e w' ⟨rfl, rfl⟩)
      go_ret
      exact ⟨by simp, rfl⟩
  · go_enter Tryz.func217, Tryz.ntmps217
    go_wp2_with (go_at_call 259; refine (qbq _ _).mono ?_; rintro e w' ⟨rfl, rfl⟩)
    go_ret
    exact ⟨by simp, rfl⟩
theorem qo7 (x y : ByteArray × ByteArray) (w : World) : Calls Tryz.prog 216 #[.agg #[.string x.1, .string x.2], .agg #[.string y.1, .string y.2]] w fun e w' => e = .returned (.int .i64 (qqg x.1 y.1)) ∧ ∃ q os, w' = Go.Sort.grow (w.drewN q) os := by
  go_enter Tryz.func216, Tryz.ntmps216
  go_wp2_with (go_at_call 217; refine (qi6 _ _ _).mono ?_; rintro e w' ⟨rfl, rfl⟩)
  go_ret
  refine ⟨rfl, 0, #[.cells #[.string x.1, .string x.2] 116, .cells #[.string y.1, .string y.2] 116], ?_⟩
  unfold Go.Sort.grow
  rw [show (w.drewN 0).heap ++ #[Obj.cells #[.string x.1, .string x.2] 116, Obj.cells #[.string y.1, .string y.2] 116] = ((w.heap.push (.cells #[.string x.1, .string x.2] 116)).push (.cells #[.string y.1, .string y.2] 116)) from by apply Array.ext'; rw [show (w.drewN 0).heap = w.heap from rfl, Array.toList_append, Array.toList_push, Array.toList_push, List.append_assoc]; rfl]
  rfl
instance instSortE : Inhabited (ByteArray × ByteArray) := ⟨(ByteArray.empty, ByteArray.empty)⟩
def encS (x : ByteArray × ByteArray) : List Value := [.string x.1, .string x.2]
theorem qmz (x y : ByteArray × ByteArray) : ltOf (fun a b : ByteArray × ByteArray => qqg a.1 b.1) x y = ltE x y := by
  show decide (qqg x.1 y.1 < 0) = _
  unfold qqg ltE
  by_cases h : Op.bytesLess x.1.toList y.1.toList = true
  · rw [if_pos h, h]
    rfl
  · have h2 : Op.bytesLess x.1.toList y.1.toList = false := by simpa using h
    rw [if_neg h, h2]
    split <;> rfl
theorem swoE : SWO (ltOf fun a b : ByteArray × ByteArray => qqg a.1 b.1) := by
  rw [show (ltOf fun a b : ByteArray × ByteArray => qqg a.1 b.1) = ltE from funext fun x => funext fun y => qmz x y]
  exact ⟨qao, fun _ _ _ => qff, fun _ _ _ => qgw⟩
theorem flat_get (d : Array (ByteArray × ByteArray)) (j i : Nat) (hj : j < d.size) (hi : i < 2) : (flatK encS 2 d)[j * 2 + i]! = (encS d[j]!)[i]! := by
  rw [get_flatK encS 2 d (j * 2 + i) (by omega), show (j * 2 + i) / 2 = j from by omega, show (j * 2 + i) % 2 = i from by omega]
theorem heap_sorted {w : World} {g off : Nat} {cur : Array Value} {t : TypeId} {fz : Nat × Nat} (hh : w.heap[g]? = some (.cells cur t fz)) (d : Array (ByteArray × ByteArray)) (m : Nat) (os : Array Obj) :
    (sortWorldK encS 2 w g off m d os).heap[g]? = some (.cells (putCells id off (flatK encS 2 d) cur) t fz) := by
  have hlt : g < w.heap.size := (Array.getElem?_eq_some_iff.1 hh).1
  show ((w.heap.modify g (onCells (putCells id off (flatK encS 2 d)))) ++ os)[g]? = _
  rw [Array.getElem?_append_left (by rw [Array.size_modify]; exact hlt), Array.getElem?_modify, if_pos rfl, hh]
  rfl
theorem qh1 (w : World) (g off k : Nat) (hk : k ≠ g) (hlt : k < w.heap.size) (d : Array (ByteArray × ByteArray)) (m : Nat) (os : Array Obj) :
    (sortWorldK encS 2 w g off m d os).heap[k]? = w.heap[k]? := by
  show ((w.heap.modify g (onCells (putCells id off (flatK encS 2 d)))) ++ os)[k]? = _
  rw [Array.getElem?_append_left (by rw [Array.size_modify]; exact hlt), Array.getElem?_modify, if_neg (fun e => hk e.symm)]
theorem qbr (w : World) (g off : Nat) (d : Array (ByteArray × ByteArray)) (m : Nat) (os : Array Obj) : w.heap.size ≤ (sortWorldK encS 2 w g off m d os).heap.size := by
  show _ ≤ ((w.heap.modify g (onCells (putCells id off (flatK encS 2 d)))) ++ os).size
  rw [Array.size_append, Array.size_modify]
  omega
theorem qt5 (w : World) (blk off size : Nat) : CmpLays Tryz.prog 216 #[] encS 2 (fun a b => qqg a.1 b.1) blk off size w := fun m os dk _ x y => by
  refine (qo7 x y _).mono ?_
  rintro e w' ⟨rfl, q, os', rfl⟩
  exact ⟨rfl, q, os', rfl⟩
set_option maxHeartbeats 4000000 in
theorem qo8 (g off cap : Nat) (l : List (ByteArray × ByteArray)) (w : World) (cur : Array Value) (t : TypeId) (fz : Nat × Nat) (hh : w.heap[g]? = some (.cells cur t fz)) (hfz : ∀ o, o < cur.size → ¬(fz.1 ≤ o ∧ o < fz.2)) (hsz : off + l.length * 2 ≤ cur.size)
    (hc : ∀ j (hj : j < l.length), CAt w g (off + j * 2) [.string l[j].1, .string l[j].2]) (hd : (l.map (fun e => e.1)).Pairwise (fun a b => a ≠ b)) (hlen : l.length < 4611686018427387904) :
    Calls Tryz.prog 165 #[.slice (some ⟨g, off, none⟩) l.length cap] w fun e w' => e = .returned (.tuple #[]) ∧ ∃ d m os, d.size = l.length ∧ d.toList = qbo l ∧ w' = sortWorldK encS 2 w g off m d os := by
  have hgl : g < w.heap.size := (Array.getElem?_eq_some_iff.1 hh).1
  have eg : ∀ args w, (callFunc 216 args).run Tryz.prog w = .ok (.enter 216 args) w := enters_of Tryz.func216 (by kernel_rfl) rfl
  have hH : HoldsK encS 2 w g off l.toArray := by
    intro q hq
    have hq2 : q < l.length * 2 := by simpa using hq
    have hj : q / 2 < l.length := by omega
    have gf := get_flatK encS 2 l.toArray q (by simpa using hq2)
    have el : l.toArray[q / 2]! = l[q / 2] := getElem!_pos l.toArray (q / 2) (by simpa using hj)
    rw [el] at gf
    have hm : q % 2 = 0 ∨ q % 2 = 1 := by omega
    constructor
    · show _ = some ((flatK encS 2 l.toArray)[q]!)
      rw [gf]
      rcases hm with hm | hm <;> rw [hm]
      · have := hc (q / 2) hj 0 _ rfl
        rwa [show off + q / 2 * 2 + 0 = off + q by omega] at this
      · have := hc (q / 2) hj 1 _ rfl
        rwa [show off + q / 2 * 2 + 1 = off + q by omega] at this
    · have := hfz (off + q) (by omega)
      simp only [World.frozen?, hh]
      simp
      omega
  have hcall := AnyQ.slices_SortFunc Tryz.laysSort 2 Tryz.isAgg116 Tryz.sizeOf116 encS (fun _ => rfl) (fun x v hv => by simp [encS] at hv; rcases hv with rfl | rfl <;> rfl) (fun a b => qqg a.1 b.1) swoE 216 #[] g off cap l.toArray w eg (qt5 w g off _) hH hgl (by simpa using hlen)
  have hcall' : Calls Tryz.prog 215 #[.slice (some ⟨g, off, none⟩) l.length cap, .func (.func 216) #[] #[]] w fun e w' => e = .returned (.tuple #[]) ∧ ∃ d' n os, PermIn 0 l.toArray.size l.toArray d' ∧ SortedIn (ltOf fun a b : ByteArray × ByteArray => qqg a.1 b.1) 0 l.toArray.size d' ∧ w' = sortWorldK encS 2 w g off n d' os := by
    exact hcall
  clear hH hcall hc
  go_enter Tryz.func165, Tryz.ntmps165
  go_wp2_with (go_at_call 215; refine hcall'.mono ?_; rintro e w' ⟨rfl, d', m, os, hp, hs, rfl⟩)
  go_end0
  obtain ⟨hsz, _, hperm⟩ := hp
  have hsz' : d'.size = l.length := by simpa using hsz
  have hperm' : d'.toList.Perm l := by
    have e1 : d'.extract 0 l.toArray.size = d' := by rw [← hsz]; exact Array.extract_size
    rw [e1, Array.extract_size] at hperm
    simpa using hperm
  have hsort : d'.toList.Pairwise (fun a b => ltE b a = false) := by
    rw [List.pairwise_iff_getElem]
    intro i j hi hj hij
    have hi' : i < d'.size := by simpa using hi
    have hj' : j < d'.size := by simpa using hj
    have := hs i j (Nat.zero_le _) hij (by simpa [hsz'] using hj')
    rw [qmz, getElem!_pos d' j hj', getElem!_pos d' i hi'] at this
    simpa using this
  exact ⟨rfl, d', m, os, hsz', qll hd hperm' hsort, rfl⟩
abbrev q2q.ps : List Par := [⟨.row (.st (.pair .str .str)), .io (.own .ro)⟩]
abbrev q2q.rs : List Res := []
def q2q.F (_ : Nat) (l : List (ByteArray × ByteArray)) : Option (List (ByteArray × ByteArray)) := if (l.map (fun e => e.1)).Pairwise (fun a b => a ≠ b) ∧ l.length < 4611686018427387904 then some (qbo l) else none
def q2q.f (k : Nat) (l : List (ByteArray × ByteArray)) : Option (List (ByteArray × ByteArray)) := q2q.F k l
theorem q2q.can : Can Tryz.prog 165 := q9t (fn := Tryz.f165) (by kernel_rfl) (by kernel_rfl) (by kernel_rfl)
theorem qqh (w : World) : Calls Tryz.prog 165 #[.slice none 0 0] w fun e w' => e = .returned (.tuple #[]) ∧ w' = w := by
  have hcall : Calls Tryz.prog 215 #[.slice none 0 0, .func (.func 216) #[] #[]] w fun e w' => e = .returned (.tuple #[]) ∧ w' = w := AnyF.slices_SortFunc_none Tryz.laysSort none 0 _ w
  go_enter Tryz.func165, Tryz.ntmps165
  go_wp2_with (go_at_call 215; refine hcall.mono ?_; rintro e w' ⟨rfl, rfl⟩)
  go_end0
  exact ⟨rfl, rfl⟩
theorem q2q.snd (k : Nat) : Snd Tryz.prog Jp 165 ⟨q2q.ps, q2q.rs, q2q.F k⟩ := by
  intro l r hr ξ w vs tk wf hG hsz lt dj hargs
  simp only [q2q.F] at hr
  split at hr
  case isFalse => cases hr
  rename_i hd
  obtain ⟨hd, hlen⟩ := hd
  obtain rfl := Option.some.inj hr
  obtain ⟨cs, h0, h1⟩ := hargs 0 _ _ rfl rfl
  have h1 : Rel ξ w (.row (.st (.pair .str .str))) (.own .ro) l cs (tk 0) := h1
  rcases h1 with ⟨hl, hcs⟩ | ⟨a, cap, c, t, fz, Te, hcs, h2, h3, h4, h5, h6, h7, h8, h9, h10, h11⟩
  · have hl : l = [] := hl
    subst hl
    subst hcs
    obtain rfl := qmt hsz h0
    refine (qqh w).mono ?_
    rintro e w' ⟨rfl, rfl⟩
    refine ⟨_, ξ, Em, Em, rfl, Fr.refl _ _ _, wf, rfl, fun i p hi hp => ?_, Dj.em _, fun b hb => hb.elim (fun x => x.elim) fun x => x.elim⟩
    cases i with
    | zero =>
      simp only [List.getElem?_cons_zero, Option.some.injEq] at hi
      subst hi
      exact ⟨⟨.row (.st (.pair .str .str)), ([] : List (ByteArray × ByteArray))⟩, rfl, rfl, [.slice none 0 0], rfl, .inl ⟨rfl, rfl⟩⟩
    | succ i => simp at hi
  · obtain ⟨g, off, sp⟩ := a
    simp only at h2 h3 h4 h7 h8 h9 h11
    subst h2
    subst hcs
    obtain rfl := qmt hsz h0
    have hn : (Ty.st (.pair .str .str)).n = 2 := rfl
    have h7 : off + cap * 2 ≤ c.size := h7
    have h6 : l.length ≤ cap := h6
    have hgl : g < w.heap.size := (Array.getElem?_eq_some_iff.1 h4).1
    refine (qo8 g off cap l w c t fz h4 h5 (by omega) (fun j hj => ?_) hd hlen).mono ?_
    · obtain ⟨c', k1, k2, k3⟩ := h11 j hj
      obtain rfl := qi1 k3
      exact k2
    · rintro e w' ⟨rfl, d, m, os, e1, e2, rfl⟩
      have hh := heap_sorted (off := off) h4 d m os
      have hcell : ∀ o, (sortWorldK encS 2 w g off m d os).cell? ⟨g, o, none⟩ = (putCells id off (flatK encS 2 d) c)[o]? := fun o => cell_of hh o
      have hps : (putCells id off (flatK encS 2 d) c).size = c.size := by simp [putCells]
      have F : Fr (fun b => ∃ i, tk i b) ξ w ξ (sortWorldK encS 2 w g off m d os) := by
        refine ⟨rfl, rfl, rfl, qbr _ _ _ _ _ _, fun b hb hn => ⟨qh1 w g off b (fun e => hn ⟨0, e ▸ h3⟩) hb d m os, rfl⟩, fun b o v ho hv => ?_, fun _ _ => Nat.le_refl _⟩
        by_cases hb : b = g
        · subst hb
          have h8 : ξ b ≤ off := h8
          rw [hcell, putCells, Array.getElem?_mapIdx]
          rw [cell_of h4] at hv
          rw [hv, Option.map_some, if_neg (by omega)]
        · rw [q81 (qh1 w g off b hb (qbe hv) d m os)]
          exact hv
      refine ⟨_, ξ, Em, tk 0, rfl, F, fun b hb => wf b (Nat.le_trans (qbr _ _ _ _ _ _) hb), rfl, fun i p hi hp => ?_, Dj.em _, fun b hb => hb.elim (fun x => x.elim) fun x => ⟨.inl ⟨0, x⟩, Nat.lt_of_lt_of_le (lt 0 b x) (qbr _ _ _ _ _ _)⟩⟩
      cases i with
      | succ i => simp at hi
      | zero =>
        simp only [List.getElem?_cons_zero, Option.some.injEq] at hi
        subst hi
        have hls : (qbo l).length = l.length := by rw [← e2, Array.length_toList, e1]
        refine ⟨⟨.row (.st (.pair .str .str)), qbo l⟩, rfl, rfl, [.slice (some ⟨g, off, none⟩) l.length cap], rfl, .inr ⟨⟨g, off, none⟩, cap, _, t, fz, fun _ => Em, by rw [hls], rfl, h3, hh, ?_, ?_, ?_, h8, fun i => ⟨Sb.em _, fun x => x⟩, fun _ _ _ => Dj.em _, fun i hi => ?_⟩⟩
        · rw [hps]; exact h5
        · rw [hls]; exact h6
        · rw [hps]; exact h7
        · have hi' : i < d.size := by rw [e1, ← hls]; exact hi
          have hd' : d[i]! = (qbo l)[i] := by
            rw [getElem!_pos d i hi']
            have : d.toList[i]? = (qbo l)[i]? := by rw [e2]
            rw [List.getElem?_eq_getElem (by simpa using hi'), List.getElem?_eq_getElem hi] at this
            simpa using this
          refine ⟨[.string (qbo l)[i].1, .string (qbo l)[i].2], rfl, ?_, qsz _ _ _ _⟩
          intro j v hv
          have hj : j < 2 := (List.getElem?_eq_some_iff.1 hv).1
          show (sortWorldK encS 2 w g off m d os).cell? ⟨g, off + i * 2 + j, none⟩ = some v
          have hlt : off + i * 2 + j < c.size := by omega
          rw [hcell, putCells, Array.getElem?_mapIdx, Array.getElem?_eq_getElem hlt, Option.map_some, if_pos ⟨by omega, by rw [size_flatK]; omega⟩]
          rw [show off + i * 2 + j - off = i * 2 + j by omega, flat_get d i j hi' hj, hd', ← hv]
          match j, hj with
          | 0, _ => rfl
          | 1, _ => rfl
end Go.Proofs.YtjfkeknnjjlepaaGreatDoor.Rf
end

section
/- Functions of the program, told plainly, and their contracts: part A3. -/
namespace Go.Proofs.YtjfkeknnjjlepaaGreatDoor.Rf
open Go Go.RowKit
set_option linter.unusedVariables false
noncomputable section
abbrev q2u.e (k : Nat) : FuncId × CE := (141, ⟨q2u.ps, q2u.rs, q2u.F k⟩)
theorem q2u.q (k : Nat) : Qs (q2u.e k) := ⟨q2u.snd k, q2u.can⟩
def q2v.C (k : Nat) : CEs := [q3q.e k, q1c.e k, q4l.e k, q0h.e k]
abbrev q2v.ps : List Par := [⟨.str, .rd⟩, ⟨t27, .rd⟩]
abbrev q2v.rs : List Res := [⟨.bool, .ro, false⟩]
def q2v.F := q4v E q2v.C [] Tryz.f31 q2v.ps q2v.rs
def q2v.f (k : Nat) (x0 : ByteArray) (x1 : Release) : Option (Bool) := q2v.F k (x0, x1)
theorem q2v.f_eq (k : Nat) (x0 : ByteArray) (x1 : Release) : q2v.f k x0 x1 = (q3q.f k x0).bind fun (r0 : Bool) => ifb r0 ((q0h.f k x1).bind fun (r1 : Bool) => ifb r1 ((q1c.f k x1).bind fun (r2 : ByteArray) => (q4l.f k x0 r2).bind fun (r3 : ByteArray) => some (x1.2.2.2.toList == r3.toList)) (some false)) (some false) := by kernel_rfl
abbrev q2v.e (k : Nat) : FuncId × CE := (31, ⟨q2v.ps, q2v.rs, q2v.F k⟩)
theorem q2v.q (k : Nat) : Qs (q2v.e k) := qq (C := q2v.C) (fun k => .c (q3q.q k) <| .c (q1c.q k) <| .c (q4l.q k) <| .c (q0h.q k) <| .nil) k
def q23.C (k : Nat) : CEs := []
abbrev q23.ps : List Par := [⟨t39, .rd⟩]
abbrev q23.rs : List Res := [⟨t39, (.pr (.own .ro) (.own .ro)), false⟩]
def q23.F := q4v E q23.C [] Tryz.f98 q23.ps q23.rs
def q23.f (k : Nat) (x0 : Book) : Option Book := q23.F k x0
theorem q23.f_eq (k : Nat) (x0 : Book) : q23.f k x0 = ifb (decide ((([] : List Aff).length + x0.1.length) * 72 ≤ q1m)) (ifb (decide ((([] : List En).length + x0.2.length) * 32 ≤ q1m)) (some ((([] : List Aff) ++ x0.1), (([] : List En) ++ x0.2))) (none)) (none) := by kernel_rfl
abbrev q23.e (k : Nat) : FuncId × CE := (98, ⟨q23.ps, q23.rs, q23.F k⟩)
theorem q23.q (k : Nat) : Qs (q23.e k) := qq (C := q23.C) (fun k => .nil) k
def q0b.C (k : Nat) : CEs := []
abbrev q0b.ps : List Par := [⟨(.row .str), .rd⟩, ⟨.str, .rd⟩]
abbrev q0b.rs : List Res := [⟨(.int .i64), .ro, false⟩]
def q0b.H : q4u := [(2, [(0, .ro), (1, .ro), (7, .ro), (8, .ro)])]
def q0b.F := q4v E q0b.C q0b.H Tryz.f214 q0b.ps q0b.rs
def q0b.L2 (k k1 : Nat) (x0 : List ByteArray) (x1 : ByteArray) (x7 : Int) (x8 : Int) : Option (Int) := atL E q0b.C q0b.H Tryz.f214 q0b.ps q0b.rs [true, false, true, true] k [] k1 (sh 19 [(0, .d (.row .str) x0 .ro), (1, .d .str x1 .ro), (7, .d (.int .i64) x7 .ro), (8, .d (.int .i64) x8 .ro)])
def q0b.f (k : Nat) (x0 : List ByteArray) (x1 : ByteArray) : Option (Int) := q0b.F k (x0, x1)
theorem q0b.f_eq (k : Nat) (x0 : List ByteArray) (x1 : ByteArray) : q0b.f k x0 x1 = q0b.L2 k k x0 x1 (x0.length : Int) (0 : Int) := by kernel_rfl
theorem q0b.L2_eq (k k1 : Nat) (x0 : List ByteArray) (x1 : ByteArray) (x7 : Int) (x8 : Int) : q0b.L2 k (k1 + 1) x0 x1 x7 x8 = ifb (decide (x8 < x7)) (ifb (decide (0 ≤ x8) && decide (x8 < (x0.length : Int))) (ifb (x1.toList == (x0.getD x8.toNat bz).toList) (some x8) (q0b.L2 k k1 x0 x1 x7 (w64 (x8 + 1)))) (none)) (some (-1 : Int)) := by kernel_rfl
abbrev q0b.e (k : Nat) : FuncId × CE := (214, ⟨q0b.ps, q0b.rs, q0b.F k⟩)
theorem q0b.q (k : Nat) : Qs (q0b.e k) := qq (C := q0b.C) (fun k => .nil) k
def q0j.C (k : Nat) : CEs := [q0b.e k]
abbrev q0j.ps : List Par := [⟨(.row .str), .rd⟩, ⟨.str, .rd⟩]
abbrev q0j.rs : List Res := [⟨.bool, .ro, false⟩]
def q0j.F := q4v E q0j.C [] Tryz.f164 q0j.ps q0j.rs
def q0j.f (k : Nat) (x0 : List ByteArray) (x1 : ByteArray) : Option (Bool) := q0j.F k (x0, x1)
theorem q0j.f_eq (k : Nat) (x0 : List ByteArray) (x1 : ByteArray) : q0j.f k x0 x1 = (q0b.f k x0 x1).bind fun (r0 : Int) => some (decide (r0 ≥ (0 : Int))) := by kernel_rfl
abbrev q0j.e (k : Nat) : FuncId × CE := (164, ⟨q0j.ps, q0j.rs, q0j.F k⟩)
theorem q0j.q (k : Nat) : Qs (q0j.e k) := qq (C := q0j.C) (fun k => .c (q0b.q k) <| .nil) k
abbrev q2q.e (k : Nat) : FuncId × CE := (165, ⟨q2q.ps, q2q.rs, q2q.F k⟩)
theorem q2q.q (k : Nat) : Qs (q2q.e k) := ⟨q2q.snd k, q2q.can⟩
def q0k.C (k : Nat) : CEs := [q3f.e k, q2q.e k, q3s.e k, q1f.e k, q23.e k, q0j.e k]
abbrev q0k.ps : List Par := [⟨t39, .rd⟩, ⟨t25, .rd⟩]
abbrev q0k.rs : List Res := [⟨t39, (.pr (.own .ro) (.own .ro)), false⟩, ⟨.bool, .ro, false⟩]
def q0k.H : q4u := [(5, [(2, .ro), (3, .ro), (4, (.pr (.own .ro) (.own .ro))), (6, (.pr (.own .ro) (.own .ro))), (27, .ro), (28, .ro), (29, .ro)]), (11, [(2, .ro), (3, .ro), (4, (.pr (.own .ro) (.own .ro))), (6, (.pr (.own .ro) (.own .ro))), (42, .ro), (43, .ro), (44, .ro)]), (20, [(2, .ro), (4, (.pr (.own .ro) (.own .ro))), (6, (.pr (.own .ro) (.own .ro)))])]
def q0k.F := q4v E q0k.C q0k.H Tryz.f99 q0k.ps q0k.rs
def q0k.L5 (k k1 : Nat) (x2 : Book) (x3 : Delta) (x4 : Book) (x6 : Book) (x27 : List ByteArray) (x28 : Int) (x29 : Int) : Option (Book × Bool) := atL E q0k.C q0k.H Tryz.f99 q0k.ps q0k.rs [true, true, true, false, true, true] k [] k1 (sh 91 [(2, .box t39 x2 .ro none), (3, .box t25 x3 .ro none), (4, .box t39 x4 (.pr (.own .ro) (.own .ro)) none), (6, .box t39 x6 (.pr (.own .ro) (.own .ro)) none), (27, .d (.row .str) x27 .ro), (28, .d (.int .i64) x28 .ro), (29, .d (.int .i64) x29 .ro)])
def q0k.L11 (k k1 : Nat) (x2 : Book) (x3 : Delta) (x4 : Book) (x6 : Book) (x42 : List En) (x43 : Int) (x44 : Int) : Option (Book × Bool) := atL E q0k.C q0k.H Tryz.f99 q0k.ps q0k.rs [true, true, true, true, false, true, true] k [] k1 (sh 91 [(2, .box t39 x2 .ro none), (3, .box t25 x3 .ro none), (4, .box t39 x4 (.pr (.own .ro) (.own .ro)) none), (6, .box t39 x6 (.pr (.own .ro) (.own .ro)) none), (42, .d t23 x42 .ro), (43, .d (.int .i64) x43 .ro), (44, .d (.int .i64) x44 .ro)])
def q0k.J20 (k : Nat) (x2 : Book) (x4 : Book) (x6 : Book) : Option (Book × Bool) := atJ E q0k.C q0k.H Tryz.f99 q0k.ps q0k.rs [true, true, true, true, true, true, true, true] 0 [] k (sh 91 [(2, .box t39 x2 .ro none), (4, .box t39 x4 (.pr (.own .ro) (.own .ro)) none), (6, .box t39 x6 (.pr (.own .ro) (.own .ro)) none)])
def q0k.f (k : Nat) (x0 : Book) (x1 : Delta) : Option (Book × Bool) := q0k.F k (x0, x1)
theorem q0k.f_eq (k : Nat) (x0 : Book) (x1 : Delta) : q0k.f k x0 x1 = (q3s.f k x0).bind fun (r0 : Bool) => ifb (!r0) (some ((([] : List Aff), ([] : List En)), false)) ((q1f.f k x1).bind fun (r1 : Bool) => ifb (!r1) (some ((([] : List Aff), ([] : List En)), false)) (ifb (decide ((([] : List Aff).length + x0.1.length) * 72 ≤ q1m)) (q0k.L5 k k x0 x1 (([] : List Aff), ([] : List En)) ((([] : List Aff) ++ x0.1), ([] : List En)) x1.1 (x1.1.length : Int) (0 : Int)) (none))) := by kernel_rfl
theorem q0k.L5_eq (k k1 : Nat) (x2 : Book) (x3 : Delta) (x4 : Book) (x6 : Book) (x27 : List ByteArray) (x28 : Int) (x29 : Int) : q0k.L5 k (k1 + 1) x2 x3 x4 x6 x27 x28 x29 = ifb (decide (x29 < x28)) (ifb (decide (0 ≤ x29) && decide (x29 < (x27.length : Int))) ((q3f.f k1 x2.2 (x27.getD x29.toNat bz)).bind fun (r2 : Int) => ifb (decide (r2 < 0)) ((q23.f k1 x2).bind fun (r3 : Book) => some (r3, false)) (q0k.L5 k k1 x2 x3 x4 x6 x27 x28 (w64 (x29 + 1)))) (none)) (q0k.L11 k k x2 x3 x4 x6 x2.2 (x2.2.length : Int) (0 : Int)) := by kernel_rfl
theorem q0k.L11_eq (k k1 : Nat) (x2 : Book) (x3 : Delta) (x4 : Book) (x6 : Book) (x42 : List En) (x43 : Int) (x44 : Int) : q0k.L11 k (k1 + 1) x2 x3 x4 x6 x42 x43 x44 = ifb (decide (x44 < x43)) (ifb (decide (0 ≤ x44) && decide (x44 < (x42.length : Int))) ((q0j.f k1 x3.1 ((x42.getD x44.toNat zE).1)).bind fun (r4 : Bool) => ifb (!r4) ((q3f.f k1 x3.2.1 ((x42.getD x44.toNat zE).1)).bind fun (r5 : Int) => ifb (decide (r5 < 0)) (ifb (decide ((x6.2.length + [(x42.getD x44.toNat zE)].length) * 32 ≤ q1m)) (q0k.L11 k k1 x2 x3 x4 (x6.1, (x6.2 ++ [(x42.getD x44.toNat zE)])) x42 x43 (w64 (x44 + 1))) (none)) (q0k.L11 k k1 x2 x3 x4 x6 x42 x43 (w64 (x44 + 1)))) (q0k.L11 k k1 x2 x3 x4 x6 x42 x43 (w64 (x44 + 1)))) (none)) (ifb (decide ((x6.2.length + x3.2.1.length) * 32 ≤ q1m)) ((q2q.f k (x6.2 ++ x3.2.1)).bind fun (r6 : List En) => ifb x3.2.2.1 (ifb (decide ((([] : List Aff).length + x3.2.2.2.length) * 72 ≤ q1m)) (q0k.J20 k x2 x4 ((([] : List Aff) ++ x3.2.2.2), r6)) (none)) (q0k.J20 k x2 x4 (x6.1, r6))) (none)) := by kernel_rfl
theorem q0k.J20_eq (k : Nat) (x2 : Book) (x4 : Book) (x6 : Book) : q0k.J20 (k + 1) x2 x4 x6 = (q3s.f k x6).bind fun (r7 : Bool) => ifb (!r7) ((q23.f k x2).bind fun (r8 : Book) => some (r8, false)) (some (x6, true)) := by kernel_rfl
abbrev q0k.e (k : Nat) : FuncId × CE := (99, ⟨q0k.ps, q0k.rs, q0k.F k⟩)
theorem q0k.q (k : Nat) : Qs (q0k.e k) := qq (C := q0k.C) (fun k => .c (q3f.q k) <| .c (q2q.q k) <| .c (q3s.q k) <| .c (q1f.q k) <| .c (q23.q k) <| .c (q0j.q k) <| .nil) k
def q2m.C (k : Nat) : CEs := [q3s.e k, q17.e k, q49.e k, q2v.e k, q23.e k, q0k.e k]
abbrev q2m.ps : List Par := [⟨.str, .rd⟩, ⟨(.int .i64), .rd⟩, ⟨t39, .rd⟩, ⟨t27, .rd⟩]
abbrev q2m.rs : List Res := [⟨t39, (.pr (.own .ro) (.own .ro)), false⟩, ⟨.bool, .ro, false⟩]
def q2m.F := q4v E q2m.C [] Tryz.f30 q2m.ps q2m.rs
def q2m.f (k : Nat) (x0 : ByteArray) (x1 : Int) (x2 : Book) (x3 : Release) : Option (Book × Bool) := q2m.F k (x0, x1, x2, x3)
theorem q2m.f_eq (k : Nat) (x0 : ByteArray) (x1 : Int) (x2 : Book) (x3 : Release) : q2m.f k x0 x1 x2 x3 = (q3s.f k x2).bind fun (r0 : Bool) => ifb (!r0) (some ((([] : List Aff), ([] : List En)), false)) ((q2v.f k x0 x3).bind fun (r1 : Bool) => ifb (!r1) ((q23.f k x2).bind fun (r2 : Book) => some (r2, false)) (ifb (x1 != (w64 (x3.1 - 1))) ((q23.f k x2).bind fun (r3 : Book) => some (r3, false)) ((q0k.f k x2 x3.2.1).bind fun (r4 : Book × Bool) => ifb (!r4.2) ((q23.f k x2).bind fun (r5 : Book) => some (r5, false)) ((q17.f k r4.1).bind fun (r6 : ByteArray) => (q49.f k r6).bind fun (r7 : ByteArray) => ifb (!(r7.toList == x3.2.2.1.toList)) ((q23.f k x2).bind fun (r8 : Book) => some (r8, false)) (some (r4.1, true)))))) := by kernel_rfl
abbrev q2m.e (k : Nat) : FuncId × CE := (30, ⟨q2m.ps, q2m.rs, q2m.F k⟩)
theorem q2m.q (k : Nat) : Qs (q2m.e k) := qq (C := q2m.C) (fun k => .c (q3s.q k) <| .c (q17.q k) <| .c (q49.q k) <| .c (q2v.q k) <| .c (q23.q k) <| .c (q0k.q k) <| .nil) k
def q30.C (k : Nat) : CEs := [q1c.e k, q0h.e k]
abbrev q30.ps : List Par := [⟨t27, .rd⟩]
abbrev q30.rs : List Res := [⟨.str, .ro, false⟩]
def q30.F := q4v E q30.C [] Tryz.f23 q30.ps q30.rs
def q30.f (k : Nat) (x0 : Release) : Option (ByteArray) := q30.F k x0
theorem q30.f_eq (k : Nat) (x0 : Release) : q30.f k x0 = (q0h.f k x0).bind fun (r0 : Bool) => ifb (!r0) (some bz) ((q1c.f k x0).bind fun (r1 : ByteArray) => ifb (q5x (r1.size + (⟨#[115, 101, 97, 108, 32]⟩ : ByteArray).size)) (ifb (q5x ((r1 ++ (⟨#[115, 101, 97, 108, 32]⟩ : ByteArray)).size + x0.2.2.2.size)) (ifb (q5x (((r1 ++ (⟨#[115, 101, 97, 108, 32]⟩ : ByteArray)) ++ x0.2.2.2).size + (⟨#[10]⟩ : ByteArray).size)) (some (((r1 ++ (⟨#[115, 101, 97, 108, 32]⟩ : ByteArray)) ++ x0.2.2.2) ++ (⟨#[10]⟩ : ByteArray))) (none)) (none)) (none)) := by kernel_rfl
abbrev q30.e (k : Nat) : FuncId × CE := (23, ⟨q30.ps, q30.rs, q30.F k⟩)
theorem q30.q (k : Nat) : Qs (q30.e k) := qq (C := q30.C) (fun k => .c (q1c.q k) <| .c (q0h.q k) <| .nil) k
end
end Go.Proofs.YtjfkeknnjjlepaaGreatDoor.Rf
end

section
/- strings.Split: the pieces of a text. -/
namespace Go.Proofs.YtjfkeknnjjlepaaGreatDoor.Rf
open Go Go.RowKit
set_option linter.unusedVariables false
set_option linter.unusedSimpArgs false
abbrev strings_Split.ps : List Par := [⟨.str, .rd⟩, ⟨.str, .rd⟩]
abbrev strings_Split.rs : List Res := [⟨.row .str, .own .ro, false⟩]
def strings_Split.F (_ : Nat) (x : ByteArray × ByteArray) : Option (List ByteArray) := if x.1.size < 4294967281 ∧ 1 ≤ x.2.size then some (Lib.splitB x.2 0 (Lib.countB x.1 x.2) x.1) else none
def strings_Split.f (k : Nat) (s c : ByteArray) : Option (List ByteArray) := strings_Split.F k (s, c)
theorem strings_Split.can : Can Tryz.prog 65 := q9t (fn := Tryz.f65) (by kernel_rfl) (by kernel_rfl) (by kernel_rfl)
theorem strings_Split.snd (k : Nat) : Snd Tryz.prog Jp 65 ⟨strings_Split.ps, strings_Split.rs, strings_Split.F k⟩ := by
  refine qdv rfl ?_
  rintro ⟨s, c⟩ r hr ξ w vs wf hj hsz ha
  simp only [strings_Split.F] at hr
  split at hr
  case isFalse => cases hr
  rename_i h
  obtain rfl := Option.some.inj hr
  obtain ⟨T0, h0⟩ := ha 0 _ _ rfl rfl
  obtain ⟨T1, h1⟩ := ha 1 _ _ rfl rfl
  obtain rfl := qgv hsz (q8k (by simp) h0) (q8k (by simp) h1)
  obtain ⟨m, hm⟩ := hj.m
  refine (Go.Proofs.Tryz.strings_Split s c m w h.1 hm h.2).mono ?_
  rintro e w' ⟨rfl, rfl⟩
  have hlen : (Lib.splitB c 0 (Lib.countB s c) s).length = Lib.countB s c + 1 := Lib.splitB_all c h.2 0 _ s rfl
  rw [← hlen]
  exact ⟨_, _, rfl, below_alloc1 _ _, qt1 wf _ _, qqa _ _⟩
end Go.Proofs.YtjfkeknnjjlepaaGreatDoor.Rf
end

section
/- strings.Cut: what stands ahead of a text and behind it. -/
namespace Go.Proofs.YtjfkeknnjjlepaaGreatDoor.Rf
open Go Go.RowKit
set_option linter.unusedVariables false
set_option linter.unusedSimpArgs false
abbrev strings_Cut.ps : List Par := [⟨.str, .rd⟩, ⟨.str, .rd⟩]
abbrev strings_Cut.rs : List Res := [⟨.str, .ro, false⟩, ⟨.str, .ro, false⟩, ⟨.bool, .ro, false⟩]
def strings_Cut.F (_ : Nat) (x : ByteArray × ByteArray) : Option (ByteArray × ByteArray × Bool) := if x.1.size < 4294967281 then some ((⟨(Lib.cut x.1.data.toList x.2.data.toList).1.toArray⟩ : ByteArray), (⟨(Lib.cut x.1.data.toList x.2.data.toList).2.1.toArray⟩ : ByteArray), (Lib.cut x.1.data.toList x.2.data.toList).2.2) else none
def strings_Cut.f (k : Nat) (s c : ByteArray) : Option (ByteArray × ByteArray × Bool) := strings_Cut.F k (s, c)
theorem strings_Cut.can : Can Tryz.prog 190 := q9t (fn := Tryz.f190) (by kernel_rfl) (by kernel_rfl) (by kernel_rfl)
theorem strings_Cut.snd (k : Nat) : Snd Tryz.prog Jp 190 ⟨strings_Cut.ps, strings_Cut.rs, strings_Cut.F k⟩ := by
  refine qdv rfl ?_
  rintro ⟨s, c⟩ r hr ξ w vs wf hj hsz ha
  simp only [strings_Cut.F] at hr
  split at hr
  case isFalse => cases hr
  rename_i h
  obtain rfl := Option.some.inj hr
  obtain ⟨T0, h0⟩ := ha 0 _ _ rfl rfl
  obtain ⟨T1, h1⟩ := ha 1 _ _ rfl rfl
  obtain rfl := qgv hsz (q8k (by simp) h0) (q8k (by simp) h1)
  obtain ⟨m, hm⟩ := hj.m
  refine (Go.Proofs.Tryz.strings_Cut s c m w h hm).mono ?_
  rintro e w' ⟨rfl, q, rfl⟩
  refine ⟨_, Em, rfl, qjv _ _, ⟨_, fun _ => Em, rfl, rfl, fun _ => Sb.em _, fun _ _ _ => Dj.em _, ?_⟩, fun b hb => hb.elim⟩
  intro i a hi
  match i, hi with
  | 0, hi => obtain rfl := Option.some.inj hi; exact qjs _ _ _ _
  | 1, hi => obtain rfl := Option.some.inj hi; exact qjs _ _ _ _
  | 2, hi => obtain rfl := Option.some.inj hi; exact of_bool _ _ _ _
  | i + 3, hi => cases (show (none : Option AV) = some a from hi)
end Go.Proofs.YtjfkeknnjjlepaaGreatDoor.Rf
end

section
/- strconv.Atoi: the number, whatever the error is. -/
namespace Go.Proofs.YtjfkeknnjjlepaaGreatDoor.Rf
open Go Go.RowKit
set_option linter.unusedVariables false
set_option linter.unusedSimpArgs false
abbrev strconv_Atoi.ps : List Par := [⟨.str, .rd⟩]
abbrev strconv_Atoi.rs : List Res := [⟨.int .i64, .ro, false⟩, ⟨.int .i64, .gone, false⟩]
def strconv_Atoi.F (_ : Nat) (x : ByteArray) : Option (Int × Int) := if x.size ≤ 281474976710656 then some (qa9 x.data.toList, 0) else none
def strconv_Atoi.f (k : Nat) (s : ByteArray) : Option (Int × Int) := strconv_Atoi.F k s
theorem strconv_Atoi.can : Can Tryz.prog 67 := q9t (fn := Tryz.f67) (by kernel_rfl) (by kernel_rfl) (by kernel_rfl)
theorem strconv_Atoi.two {ξ : Im} {w : World} (n : Int) (ev : Value) : q6c ξ w (q9x (q5w strconv_Atoi.rs (unpack (outs strconv_Atoi.ps strconv_Atoi.rs) ((n, 0) : Int × Int)))) (.tuple #[.int .i64 n, ev]) Em := by
  refine ⟨_, fun _ => Em, rfl, rfl, fun _ => Sb.em _, fun _ _ _ => Dj.em _, ?_⟩
  intro i a hi
  match i, hi with
  | 0, hi => obtain rfl := Option.some.inj hi; exact of_int _ _ _ _ _
  | 1, hi => obtain rfl := Option.some.inj hi; exact ⟨[ev], rfl, rfl, fun h => (h rfl).elim⟩
  | i + 2, hi => cases (show (none : Option AV) = some a from hi)
theorem strconv_Atoi.snd (k : Nat) : Snd Tryz.prog Jp 67 ⟨strconv_Atoi.ps, strconv_Atoi.rs, strconv_Atoi.F k⟩ := by
  refine qdv rfl ?_
  intro (s : ByteArray) r hr ξ w vs wf hj hsz ha
  simp only [strconv_Atoi.F] at hr
  split at hr
  case isFalse => cases hr
  rename_i h
  obtain rfl := Option.some.inj hr
  obtain ⟨T0, h0⟩ := ha 0 _ _ rfl rfl
  obtain rfl := qmt hsz (q8k (by simp) h0)
  cases hc : Lib.atoiAll s.data.toList with
  | ok v =>
    have hv : qa9 s.data.toList = v := by rw [qa9, hc]
    rw [hv]
    refine (Go.Proofs.Tryz.strconv_Atoi_ok s (by omega) v hc w).mono ?_
    rintro e w' ⟨rfl, rfl | ⟨t, rfl⟩⟩
    · exact ⟨_, Em, rfl, Below.refl _ _, strconv_Atoi.two _ _, fun b hb => hb.elim⟩
    · exact ⟨_, Em, rfl, Lib.bytesWorld_below w _ t, strconv_Atoi.two _ _, fun b hb => hb.elim⟩
  | range =>
    have hv : qa9 s.data.toList = Lib.atoiSat s.data.toList := by rw [qa9, hc]
    rw [hv]
    obtain ⟨ev, e1, e2⟩ := hj.r
    refine (Go.Proofs.Tryz.strconv_Atoi_range s h hc ev w e1 e2).mono ?_
    rintro e w' ⟨N, rfl, _, _, hb⟩
    exact ⟨_, Em, rfl, hb, strconv_Atoi.two _ _, fun b hb => hb.elim⟩
  | _ =>
    have hv : qa9 s.data.toList = 0 := by rw [qa9, hc]
    rw [hv]
    obtain ⟨ev, e1, e2⟩ := hj.e
    refine (Go.Proofs.Any.strconv_Atoi_syntax Go.Proofs.Tryz.laysC172 s h hc ev w e1 e2).mono ?_
    rintro e w' ⟨N, rfl, _, _, hb⟩
    exact ⟨_, Em, rfl, hb, strconv_Atoi.two _ _, fun b hb => hb.elim⟩
end Go.Proofs.YtjfkeknnjjlepaaGreatDoor.Rf
end

section
/- strings.IndexByte. -/
namespace Go.Proofs.YtjfkeknnjjlepaaGreatDoor.Rf
open Go Go.RowKit
set_option linter.unusedVariables false
set_option linter.unusedSimpArgs false
abbrev strings_IndexByte.ps : List Par := [⟨.str, .rd⟩, ⟨.int .u8, .rd⟩]
abbrev strings_IndexByte.rs : List Res := [⟨.int .i64, .ro, false⟩]
def strings_IndexByte.F (_ : Nat) (x : ByteArray × Int) : Option Int := some (Lib.indexByte x.1.data.toList x.2.toNat.toUInt8)
def strings_IndexByte.f (k : Nat) (s : ByteArray) (c : Int) : Option Int := strings_IndexByte.F k (s, c)
theorem strings_IndexByte.can : Can Tryz.prog 218 := q9t (fn := Tryz.f218) (by kernel_rfl) (by kernel_rfl) (by kernel_rfl)
theorem strings_IndexByte.snd (k : Nat) : Snd Tryz.prog Jp 218 ⟨strings_IndexByte.ps, strings_IndexByte.rs, strings_IndexByte.F k⟩ := by
  refine qdv rfl ?_
  rintro ⟨s, c⟩ r hr ξ w vs wf hj hsz ha
  obtain rfl := Option.some.inj hr
  obtain ⟨T0, h0⟩ := ha 0 _ _ rfl rfl
  obtain ⟨T1, h1⟩ := ha 1 _ _ rfl rfl
  obtain rfl := qgv hsz (q8k (by simp) h0) (qq9 (by simp) h1)
  refine (Go.Proofs.Tryz.strings_IndexByte s c w).mono ?_
  rintro e w' ⟨rfl, rfl⟩
  exact ⟨_, Em, rfl, Below.refl _ _, of_int _ _ _ _ _, fun b hb => hb.elim⟩
end Go.Proofs.YtjfkeknnjjlepaaGreatDoor.Rf
end

section
/- Functions of the program, told plainly, and their contracts: part A4. -/
namespace Go.Proofs.YtjfkeknnjjlepaaGreatDoor.Rf
open Go Go.RowKit
set_option linter.unusedVariables false
noncomputable section
abbrev strings_Split.e (k : Nat) : FuncId × CE := (65, ⟨strings_Split.ps, strings_Split.rs, strings_Split.F k⟩)
theorem strings_Split.q (k : Nat) : Qs (strings_Split.e k) := ⟨strings_Split.snd k, strings_Split.can⟩
def q2j.C (k : Nat) : CEs := [strings_Split.e k]
abbrev q2j.ps : List Par := [⟨.str, .rd⟩]
abbrev q2j.rs : List Res := [⟨(.row .str), .ro, false⟩]
def q2j.H : q4u := [(2, [(3, .ro)])]
def q2j.F := q4v E q2j.C q2j.H Tryz.f64 q2j.ps q2j.rs
def q2j.J2 (k : Nat) (x3 : List ByteArray) : Option (List ByteArray) := atJ E q2j.C q2j.H Tryz.f64 q2j.ps q2j.rs [true, true] 0 [] k (sh 11 [(3, .d (.row .str) x3 .ro)])
def q2j.f (k : Nat) (x0 : ByteArray) : Option (List ByteArray) := q2j.F k x0
theorem q2j.f_eq (k : Nat) (x0 : ByteArray) : q2j.f k x0 = (strings_Split.f k x0 (⟨#[10]⟩ : ByteArray)).bind fun (r0 : List ByteArray) => q2j.J2 k r0 := by kernel_rfl
theorem q2j.J2_eq (k : Nat) (x3 : List ByteArray) : q2j.J2 (k + 1) x3 = ifb (decide (0 ≤ (0 : Int)) && (decide ((0 : Int) ≤ (w64 ((x3.length : Int) - 1))) && decide ((w64 ((x3.length : Int) - 1)) ≤ (x3.length : Int)))) (some ((x3.take (w64 ((x3.length : Int) - 1)).toNat).drop (0 : Int).toNat)) (none) := by kernel_rfl
abbrev q2j.e (k : Nat) : FuncId × CE := (64, ⟨q2j.ps, q2j.rs, q2j.F k⟩)
theorem q2j.q (k : Nat) : Qs (q2j.e k) := qq (C := q2j.C) (fun k => .c (strings_Split.q k) <| .nil) k
def q12.C (k : Nat) : CEs := [q0p.e k]
abbrev q12.ps : List Par := [⟨.str, .rd⟩, ⟨.str, .rd⟩]
abbrev q12.rs : List Res := [⟨.str, .ro, false⟩]
def q12.F := q4v E q12.C [] Tryz.f123 q12.ps q12.rs
def q12.f (k : Nat) (x0 : ByteArray) (x1 : ByteArray) : Option (ByteArray) := q12.F k (x0, x1)
theorem q12.f_eq (k : Nat) (x0 : ByteArray) (x1 : ByteArray) : q12.f k x0 x1 = (q0p.f k x0 x1).bind fun (r0 : Bool) => ifb r0 (ifb (decide (0 ≤ (x1.size : Int)) && (decide ((x1.size : Int) ≤ (x0.size : Int)) && decide ((x0.size : Int) ≤ (x0.size : Int)))) (some (x0.extract (x1.size : Int).toNat (x0.size : Int).toNat)) (none)) (some x0) := by kernel_rfl
abbrev q12.e (k : Nat) : FuncId × CE := (123, ⟨q12.ps, q12.rs, q12.F k⟩)
theorem q12.q (k : Nat) : Qs (q12.e k) := qq (C := q12.C) (fun k => .c (q0p.q k) <| .nil) k
def strings_TrimPrefix.C (k : Nat) : CEs := [q12.e k]
abbrev strings_TrimPrefix.ps : List Par := [⟨.str, .rd⟩, ⟨.str, .rd⟩]
abbrev strings_TrimPrefix.rs : List Res := [⟨.str, .ro, false⟩]
def strings_TrimPrefix.F := q4v E strings_TrimPrefix.C [] Tryz.f66 strings_TrimPrefix.ps strings_TrimPrefix.rs
def strings_TrimPrefix.f (k : Nat) (x0 : ByteArray) (x1 : ByteArray) : Option (ByteArray) := strings_TrimPrefix.F k (x0, x1)
theorem strings_TrimPrefix.f_eq (k : Nat) (x0 : ByteArray) (x1 : ByteArray) : strings_TrimPrefix.f k x0 x1 = (q12.f k x0 x1).bind fun (r0 : ByteArray) => some r0 := by kernel_rfl
abbrev strings_TrimPrefix.e (k : Nat) : FuncId × CE := (66, ⟨strings_TrimPrefix.ps, strings_TrimPrefix.rs, strings_TrimPrefix.F k⟩)
theorem strings_TrimPrefix.q (k : Nat) : Qs (strings_TrimPrefix.e k) := qq (C := strings_TrimPrefix.C) (fun k => .c (q12.q k) <| .nil) k
abbrev strings_Cut.e (k : Nat) : FuncId × CE := (190, ⟨strings_Cut.ps, strings_Cut.rs, strings_Cut.F k⟩)
theorem strings_Cut.q (k : Nat) : Qs (strings_Cut.e k) := ⟨strings_Cut.snd k, strings_Cut.can⟩
def q3i.C (k : Nat) : CEs := [strings_Cut.e k]
abbrev q3i.ps : List Par := [⟨.str, .rd⟩]
abbrev q3i.rs : List Res := [⟨qi3, .ro, false⟩]
def q3i.F := q4v E q3i.C [] Tryz.f127 q3i.ps q3i.rs
def q3i.f (k : Nat) (x0 : ByteArray) : Option En := q3i.F k x0
theorem q3i.f_eq (k : Nat) (x0 : ByteArray) : q3i.f k x0 = (strings_Cut.f k x0 (⟨#[47]⟩ : ByteArray)).bind fun (r0 : ByteArray × ByteArray × Bool) => some (r0.1, r0.2.1) := by kernel_rfl
abbrev q3i.e (k : Nat) : FuncId × CE := (127, ⟨q3i.ps, q3i.rs, q3i.F k⟩)
theorem q3i.q (k : Nat) : Qs (q3i.e k) := qq (C := q3i.C) (fun k => .c (strings_Cut.q k) <| .nil) k
def q3j.C (k : Nat) : CEs := [strings_Split.e k]
abbrev q3j.ps : List Par := [⟨.str, .rd⟩]
abbrev q3j.rs : List Res := [⟨qge, .ro, false⟩]
def q3j.F := q4v E q3j.C [] Tryz.f128 q3j.ps q3j.rs
def q3j.f (k : Nat) (x0 : ByteArray) : Option (Aff) := q3j.F k x0
theorem q3j.f_eq (k : Nat) (x0 : ByteArray) : q3j.f k x0 = (strings_Split.f k x0 (⟨#[32]⟩ : ByteArray)).bind fun (r0 : List ByteArray) => ifb (decide ((r0.length + [bz, bz, bz, bz].length) * 16 ≤ q1m)) (ifb (decide (0 ≤ (1 : Int)) && decide ((1 : Int) < ((r0 ++ [bz, bz, bz, bz]).length : Int))) (ifb (decide (0 ≤ (0 : Int)) && decide ((0 : Int) < ((r0 ++ [bz, bz, bz, bz]).length : Int))) (ifb (decide (0 ≤ (2 : Int)) && decide ((2 : Int) < ((r0 ++ [bz, bz, bz, bz]).length : Int))) (ifb (decide (0 ≤ (3 : Int)) && decide ((3 : Int) < ((r0 ++ [bz, bz, bz, bz]).length : Int))) (ifb (decide (0 ≤ (4 : Int)) && decide ((4 : Int) < ((r0 ++ [bz, bz, bz, bz]).length : Int))) (some (((r0 ++ [bz, bz, bz, bz]).getD ((1 : Int).toNat) bz), (((r0 ++ [bz, bz, bz, bz]).getD ((0 : Int).toNat) bz).toList == (⟨#[102, 114, 111, 110, 116]⟩ : ByteArray).toList), ((r0 ++ [bz, bz, bz, bz]).getD ((2 : Int).toNat) bz), ((r0 ++ [bz, bz, bz, bz]).getD ((3 : Int).toNat) bz), ((r0 ++ [bz, bz, bz, bz]).getD ((4 : Int).toNat) bz))) (none)) (none)) (none)) (none)) (none)) (none) := by kernel_rfl
abbrev q3j.e (k : Nat) : FuncId × CE := (128, ⟨q3j.ps, q3j.rs, q3j.F k⟩)
theorem q3j.q (k : Nat) : Qs (q3j.e k) := qq (C := q3j.C) (fun k => .c (strings_Split.q k) <| .nil) k
def q1g.C (k : Nat) : CEs := [strings_HasPrefix.e k, q1f.e k, q0d.e k, q2j.e k, q3i.e k, q3j.e k]
abbrev q1g.ps : List Par := [⟨.str, .rd⟩]
abbrev q1g.rs : List Res := [⟨t25, (.pr (.own .ro) (.pr (.own .ro) (.pr .ro (.own .ro)))), false⟩, ⟨.bool, .ro, false⟩]
def q1g.H : q4u := [(3, [(0, .ro), (2, (.pr (.own .ro) (.pr (.own .ro) (.pr .ro (.own .ro))))), (4, (.pr (.own .ro) (.pr (.own .ro) (.pr .ro (.own .ro))))), (12, .ro), (13, .ro), (14, .ro)])]
def q1g.F := q4v E q1g.C q1g.H Tryz.f68 q1g.ps q1g.rs
def q1g.L3 (k k1 : Nat) (x0 : ByteArray) (x2 : Delta) (x4 : Delta) (x12 : List ByteArray) (x13 : Int) (x14 : Int) : Option (Delta × Bool) := atL E q1g.C q1g.H Tryz.f68 q1g.ps q1g.rs [true, true, false, true, true] k [] k1 (sh 62 [(0, .d .str x0 .ro), (2, .box t25 x2 (.pr (.own .ro) (.pr (.own .ro) (.pr .ro (.own .ro)))) none), (4, .box t25 x4 (.pr (.own .ro) (.pr (.own .ro) (.pr .ro (.own .ro)))) none), (12, .d (.row .str) x12 .ro), (13, .d (.int .i64) x13 .ro), (14, .d (.int .i64) x14 .ro)])
def q1g.f (k : Nat) (x0 : ByteArray) : Option (Delta × Bool) := q1g.F k x0
theorem q1g.f_eq (k : Nat) (x0 : ByteArray) : q1g.f k x0 = (q2j.f k x0).bind fun (r0 : List ByteArray) => q1g.L3 k k x0 (([] : List ByteArray), ([] : List En), false, ([] : List Aff)) (([] : List ByteArray), ([] : List En), false, ([] : List Aff)) r0 (r0.length : Int) (0 : Int) := by kernel_rfl
theorem q1g.L3_eq (k k1 : Nat) (x0 : ByteArray) (x2 : Delta) (x4 : Delta) (x12 : List ByteArray) (x13 : Int) (x14 : Int) : q1g.L3 k (k1 + 1) x0 x2 x4 x12 x13 x14 = ifb (decide (x14 < x13)) (ifb (decide (0 ≤ x14) && decide (x14 < (x12.length : Int))) (ifb ((x12.getD x14.toNat bz).toList == (⟨#[97, 102, 102, 105, 120, 101, 115]⟩ : ByteArray).toList) (q1g.L3 k k1 x0 x2 (x4.1, x4.2.1, true, x4.2.2.2) x12 x13 (w64 (x14 + 1))) ((strings_HasPrefix.f k1 (x12.getD x14.toNat bz) (⟨#[45]⟩ : ByteArray)).bind fun (r1 : Bool) => ifb r1 (ifb (decide (0 ≤ (1 : Int)) && (decide ((1 : Int) ≤ ((x12.getD x14.toNat bz).size : Int)) && decide (((x12.getD x14.toNat bz).size : Int) ≤ ((x12.getD x14.toNat bz).size : Int)))) (ifb (decide ((x4.1.length + [((x12.getD x14.toNat bz).extract (1 : Int).toNat ((x12.getD x14.toNat bz).size : Int).toNat)].length) * 16 ≤ q1m)) (q1g.L3 k k1 x0 x2 ((x4.1 ++ [((x12.getD x14.toNat bz).extract (1 : Int).toNat ((x12.getD x14.toNat bz).size : Int).toNat)]), x4.2) x12 x13 (w64 (x14 + 1))) (none)) (none)) ((strings_HasPrefix.f k1 (x12.getD x14.toNat bz) (⟨#[43]⟩ : ByteArray)).bind fun (r2 : Bool) => ifb r2 (ifb (decide (0 ≤ (1 : Int)) && (decide ((1 : Int) ≤ ((x12.getD x14.toNat bz).size : Int)) && decide (((x12.getD x14.toNat bz).size : Int) ≤ ((x12.getD x14.toNat bz).size : Int)))) ((q3i.f k1 ((x12.getD x14.toNat bz).extract (1 : Int).toNat ((x12.getD x14.toNat bz).size : Int).toNat)).bind fun (r3 : ByteArray × ByteArray) => ifb (decide ((x4.2.1.length + [r3].length) * 32 ≤ q1m)) (q1g.L3 k k1 x0 x2 (x4.1, (x4.2.1 ++ [r3]), x4.2.2) x12 x13 (w64 (x14 + 1))) (none)) (none)) ((q3j.f k1 (x12.getD x14.toNat bz)).bind fun (r4 : Aff) => ifb (decide ((x4.2.2.2.length + [r4].length) * 72 ≤ q1m)) (q1g.L3 k k1 x0 x2 (x4.1, x4.2.1, x4.2.2.1, (x4.2.2.2 ++ [r4])) x12 x13 (w64 (x14 + 1))) (none))))) (none)) ((q1f.f k x4).bind fun (r5 : Bool) => ifb (!r5) (some ((([] : List ByteArray), ([] : List En), false, ([] : List Aff)), false)) ((q0d.f k x4).bind fun (r6 : ByteArray) => ifb (!(r6.toList == x0.toList)) (some ((([] : List ByteArray), ([] : List En), false, ([] : List Aff)), false)) (some (x4, true)))) := by kernel_rfl
abbrev q1g.e (k : Nat) : FuncId × CE := (68, ⟨q1g.ps, q1g.rs, q1g.F k⟩)
theorem q1g.q (k : Nat) : Qs (q1g.e k) := qq (C := q1g.C) (fun k => .c (strings_HasPrefix.q k) <| .c (q1f.q k) <| .c (q0d.q k) <| .c (q2j.q k) <| .c (q3i.q k) <| .c (q3j.q k) <| .nil) k
abbrev strconv_Atoi.e (k : Nat) : FuncId × CE := (67, ⟨strconv_Atoi.ps, strconv_Atoi.rs, strconv_Atoi.F k⟩)
theorem strconv_Atoi.q (k : Nat) : Qs (strconv_Atoi.e k) := ⟨strconv_Atoi.snd k, strconv_Atoi.can⟩
def q0r.C (k : Nat) : CEs := [strings_Split.e k, strconv_Atoi.e k, q30.e k, q2j.e k, strings_TrimPrefix.e k, q1g.e k]
abbrev q0r.ps : List Par := [⟨.str, .rd⟩]
abbrev q0r.rs : List Res := [⟨t27, (.pr .ro (.pr (.pr (.own .ro) (.pr (.own .ro) (.pr .ro (.own .ro)))) .ro)), false⟩, ⟨.bool, .ro, false⟩]
def q0r.H : q4u := [(12, [(0, .ro), (2, (.pr .ro (.pr (.pr (.own .ro) (.pr (.own .ro) (.pr .ro (.own .ro)))) .ro))), (7, (.pr .ro (.pr (.pr (.own .ro) (.pr (.own .ro) (.pr .ro (.own .ro)))) .ro))), (8, .ro), (49, .ro), (50, .ro), (51, .ro)])]
def q0r.F := q4v E q0r.C q0r.H Tryz.f18 q0r.ps q0r.rs
def q0r.L12 (k k1 : Nat) (x0 : ByteArray) (x2 : Release) (x7 : Release) (x8 : ByteArray) (x49 : List ByteArray) (x50 : Int) (x51 : Int) : Option (Release × Bool) := atL E q0r.C q0r.H Tryz.f18 q0r.ps q0r.rs [true, true, true, true, true, true, true, true, true, false, true, true] k [] k1 (sh 77 [(0, .d .str x0 .ro), (2, .box t27 x2 (.pr .ro (.pr (.pr (.own .ro) (.pr (.own .ro) (.pr .ro (.own .ro)))) .ro)) none), (7, .box t27 x7 (.pr .ro (.pr (.pr (.own .ro) (.pr (.own .ro) (.pr .ro (.own .ro)))) .ro)) none), (8, .d .str x8 .ro), (49, .d (.row .str) x49 .ro), (50, .d (.int .i64) x50 .ro), (51, .d (.int .i64) x51 .ro)])
def q0r.f (k : Nat) (x0 : ByteArray) : Option (Release × Bool) := q0r.F k x0
theorem q0r.f_eq (k : Nat) (x0 : ByteArray) : q0r.f k x0 = (q2j.f k x0).bind fun (r0 : List ByteArray) => ifb (decide ((r0.length : Int) < (2 : Int))) (some (((0 : Int), (([] : List ByteArray), ([] : List En), false, ([] : List Aff)), bz, bz), false)) (ifb (decide (0 ≤ (0 : Int)) && decide ((0 : Int) < (r0.length : Int))) ((strings_Split.f k (r0.getD ((0 : Int).toNat) bz) (⟨#[32]⟩ : ByteArray)).bind fun (r1 : List ByteArray) => ifb ((r1.length : Int) != (3 : Int)) (some (((0 : Int), (([] : List ByteArray), ([] : List En), false, ([] : List Aff)), bz, bz), false)) (ifb (decide (0 ≤ (2 : Int)) && decide ((2 : Int) < (r1.length : Int))) (ifb (decide (0 ≤ (w64 ((r0.length : Int) - 1))) && decide ((w64 ((r0.length : Int) - 1)) < (r0.length : Int))) ((strings_TrimPrefix.f k (r0.getD ((w64 ((r0.length : Int) - 1)).toNat) bz) (⟨#[115, 101, 97, 108, 32]⟩ : ByteArray)).bind fun (r2 : ByteArray) => ifb (decide (0 ≤ (1 : Int)) && decide ((1 : Int) < (r1.length : Int))) ((strconv_Atoi.f k (r1.getD ((1 : Int).toNat) bz)).bind fun (r3 : Int × Int) => ifb (decide (0 ≤ (1 : Int)) && (decide ((1 : Int) ≤ (w64 ((r0.length : Int) - 1))) && decide ((w64 ((r0.length : Int) - 1)) ≤ (r0.length : Int)))) (q0r.L12 k k x0 ((0 : Int), (([] : List ByteArray), ([] : List En), false, ([] : List Aff)), bz, bz) (r3.1, (([] : List ByteArray), ([] : List En), false, ([] : List Aff)), (r1.getD ((2 : Int).toNat) bz), r2) bz ((r0.take (w64 ((r0.length : Int) - 1)).toNat).drop (1 : Int).toNat) (((r0.take (w64 ((r0.length : Int) - 1)).toNat).drop (1 : Int).toNat).length : Int) (0 : Int)) (none)) (none)) (none)) (none))) (none)) := by kernel_rfl
theorem q0r.L12_eq (k k1 : Nat) (x0 : ByteArray) (x2 : Release) (x7 : Release) (x8 : ByteArray) (x49 : List ByteArray) (x50 : Int) (x51 : Int) : q0r.L12 k (k1 + 1) x0 x2 x7 x8 x49 x50 x51 = ifb (decide (x51 < x50)) (ifb (decide (0 ≤ x51) && decide (x51 < (x49.length : Int))) (ifb (q5x ((x49.getD x51.toNat bz).size + (⟨#[10]⟩ : ByteArray).size)) (ifb (q5x (x8.size + ((x49.getD x51.toNat bz) ++ (⟨#[10]⟩ : ByteArray)).size)) (q0r.L12 k k1 x0 x2 x7 (x8 ++ ((x49.getD x51.toNat bz) ++ (⟨#[10]⟩ : ByteArray))) x49 x50 (w64 (x51 + 1))) (none)) (none)) (none)) ((q1g.f k x8).bind fun (r4 : Delta × Bool) => ifb (!r4.2) (some (((0 : Int), (([] : List ByteArray), ([] : List En), false, ([] : List Aff)), bz, bz), false)) ((q30.f k (x7.1, r4.1, x7.2.2)).bind fun (r5 : ByteArray) => ifb (!(r5.toList == x0.toList)) (some (((0 : Int), (([] : List ByteArray), ([] : List En), false, ([] : List Aff)), bz, bz), false)) (some ((x7.1, r4.1, x7.2.2), true)))) := by kernel_rfl
abbrev q0r.e (k : Nat) : FuncId × CE := (18, ⟨q0r.ps, q0r.rs, q0r.F k⟩)
theorem q0r.q (k : Nat) : Qs (q0r.e k) := qq (C := q0r.C) (fun k => .c (strings_Split.q k) <| .c (strconv_Atoi.q k) <| .c (q30.q k) <| .c (q2j.q k) <| .c (strings_TrimPrefix.q k) <| .c (q1g.q k) <| .nil) k
def q2n.C (k : Nat) : CEs := []
abbrev q2n.ps : List Par := []
abbrev q2n.rs : List Res := [⟨t39, (.pr (.own .ro) (.own .ro)), false⟩]
def q2n.F := q4v E q2n.C [] Tryz.f101 q2n.ps q2n.rs
def q2n.f (k : Nat) : Option Book := q2n.F k ()
theorem q2n.f_eq (k : Nat) : q2n.f k = some (([] : List Aff), ([] : List En)) := by kernel_rfl
abbrev q2n.e (k : Nat) : FuncId × CE := (101, ⟨q2n.ps, q2n.rs, q2n.F k⟩)
theorem q2n.q (k : Nat) : Qs (q2n.e k) := qq (C := q2n.C) (fun k => .nil) k
def q04.C (k : Nat) : CEs := []
abbrev q04.ps : List Par := [⟨t23, .rd⟩, ⟨t23, .rd⟩]
abbrev q04.rs : List Res := [⟨.bool, .ro, false⟩]
def q04.H : q4u := [(4, [(0, .ro), (1, .ro), (12, .ro), (13, .ro)])]
def q04.F := q4v E q04.C q04.H Tryz.f166 q04.ps q04.rs
def q04.L4 (k k1 : Nat) (x0 : List En) (x1 : List En) (x12 : Int) (x13 : Int) : Option (Bool) := atL E q04.C q04.H Tryz.f166 q04.ps q04.rs [true, true, false, true, true] k [] k1 (sh 26 [(0, .d t23 x0 .ro), (1, .d t23 x1 .ro), (12, .d (.int .i64) x12 .ro), (13, .d (.int .i64) x13 .ro)])
def q04.f (k : Nat) (x0 : List En) (x1 : List En) : Option (Bool) := q04.F k (x0, x1)
theorem q04.f_eq (k : Nat) (x0 : List En) (x1 : List En) : q04.f k x0 x1 = ifb ((x0.length : Int) != (x1.length : Int)) (some false) (q04.L4 k k x0 x1 (x0.length : Int) (0 : Int)) := by kernel_rfl
theorem q04.L4_eq (k k1 : Nat) (x0 : List En) (x1 : List En) (x12 : Int) (x13 : Int) : q04.L4 k (k1 + 1) x0 x1 x12 x13 = ifb (decide (x13 < x12)) (ifb (decide (0 ≤ x13) && decide (x13 < (x0.length : Int))) (ifb (decide (0 ≤ x13) && decide (x13 < (x1.length : Int))) (ifb (!((((x0.getD x13.toNat zE).1).toList == ((x1.getD x13.toNat zE).1).toList) && (((x0.getD x13.toNat zE).2).toList == ((x1.getD x13.toNat zE).2).toList))) (some false) (q04.L4 k k1 x0 x1 x12 (w64 (x13 + 1)))) (none)) (none)) (some true) := by kernel_rfl
abbrev q04.e (k : Nat) : FuncId × CE := (166, ⟨q04.ps, q04.rs, q04.F k⟩)
theorem q04.q (k : Nat) : Qs (q04.e k) := qq (C := q04.C) (fun k => .nil) k
def q3m.C (k : Nat) : CEs := [q03.e k, q04.e k]
abbrev q3m.ps : List Par := [⟨t39, .rd⟩, ⟨t39, .rd⟩]
abbrev q3m.rs : List Res := [⟨.bool, .ro, false⟩]
def q3m.F := q4v E q3m.C [] Tryz.f102 q3m.ps q3m.rs
def q3m.f (k : Nat) (x0 : Book) (x1 : Book) : Option (Bool) := q3m.F k (x0, x1)
theorem q3m.f_eq (k : Nat) (x0 : Book) (x1 : Book) : q3m.f k x0 x1 = (q03.f k x0.1 x1.1).bind fun (r0 : Bool) => ifb r0 ((q04.f k x0.2 x1.2).bind fun (r1 : Bool) => some r1) (some false) := by kernel_rfl
abbrev q3m.e (k : Nat) : FuncId × CE := (102, ⟨q3m.ps, q3m.rs, q3m.F k⟩)
theorem q3m.q (k : Nat) : Qs (q3m.e k) := qq (C := q3m.C) (fun k => .c (q03.q k) <| .c (q04.q k) <| .nil) k
abbrev strings_IndexByte.e (k : Nat) : FuncId × CE := (218, ⟨strings_IndexByte.ps, strings_IndexByte.rs, strings_IndexByte.F k⟩)
theorem strings_IndexByte.q (k : Nat) : Qs (strings_IndexByte.e k) := ⟨strings_IndexByte.snd k, strings_IndexByte.can⟩
def q1j.C (k : Nat) : CEs := [strings_IndexByte.e k, strings_HasPrefix.e k]
abbrev q1j.ps : List Par := [⟨.str, .rd⟩]
abbrev q1j.rs : List Res := [⟨.str, .ro, false⟩, ⟨.bool, .ro, false⟩]
def q1j.H : q4u := [(2, [(0, .ro), (4, .ro)])]
def q1j.F := q4v E q1j.C q1j.H Tryz.f167 q1j.ps q1j.rs
def q1j.L2 (k : Nat) (x0 : ByteArray) (x4 : Int) : Option (ByteArray × Bool) := atL E q1j.C q1j.H Tryz.f167 q1j.ps q1j.rs [true, true, true] 0 [] k (sh 33 [(0, .d .str x0 .ro), (4, .d (.int .i64) x4 .ro)])
def q1j.f (k : Nat) (x0 : ByteArray) : Option (ByteArray × Bool) := q1j.F k x0
theorem q1j.f_eq (k : Nat) (x0 : ByteArray) : q1j.f k x0 = q1j.L2 k x0 (0 : Int) := by kernel_rfl
theorem q1j.L2_eq (k : Nat) (x0 : ByteArray) (x4 : Int) : q1j.L2 (k + 1) x0 x4 = ifb (decide (0 ≤ x4) && (decide (x4 ≤ (x0.size : Int)) && decide ((x0.size : Int) ≤ (x0.size : Int)))) ((strings_IndexByte.f k (x0.extract x4.toNat (x0.size : Int).toNat) (10 : Int)).bind fun (r0 : Int) => ifb (decide (r0 < 0)) (some (bz, false)) (ifb (decide (0 ≤ x4) && (decide (x4 ≤ (w64 (x4 + r0))) && decide ((w64 (x4 + r0)) ≤ (x0.size : Int)))) (ifb (((x0.extract x4.toNat (w64 (x4 + r0)).toNat).size : Int) == (69 : Int)) ((strings_HasPrefix.f k (x0.extract x4.toNat (w64 (x4 + r0)).toNat) (⟨#[115, 101, 97, 108, 32]⟩ : ByteArray)).bind fun (r1 : Bool) => ifb r1 (ifb (decide (0 ≤ (0 : Int)) && (decide ((0 : Int) ≤ (w64 (x4 + (w64 (r0 + 1))))) && decide ((w64 (x4 + (w64 (r0 + 1)))) ≤ (x0.size : Int)))) (some ((x0.extract (0 : Int).toNat (w64 (x4 + (w64 (r0 + 1)))).toNat), true)) (none)) (q1j.L2 k x0 (w64 (x4 + (w64 (r0 + 1)))))) (q1j.L2 k x0 (w64 (x4 + (w64 (r0 + 1)))))) (none))) (none) := by kernel_rfl
abbrev q1j.e (k : Nat) : FuncId × CE := (167, ⟨q1j.ps, q1j.rs, q1j.F k⟩)
theorem q1j.q (k : Nat) : Qs (q1j.e k) := qq (C := q1j.C) (fun k => .c (strings_IndexByte.q k) <| .c (strings_HasPrefix.q k) <| .nil) k
def q1n.C (k : Nat) : CEs := [q2m.e k, q0r.e k, q2n.e k, q1j.e k]
abbrev q1n.ps : List Par := [⟨.str, .rd⟩, ⟨.str, .rd⟩, ⟨(.int .i64), .rd⟩]
abbrev q1n.rs : List Res := [⟨(.row .str), (.own .ro), false⟩, ⟨(.int .i64), .ro, false⟩, ⟨t39, (.pr (.own .ro) (.own .ro)), false⟩]
def q1n.H : q4u := [(4, [(0, .ro), (1, .ro), (2, .ro), (8, (.pr (.own .ro) (.own .ro))), (9, (.own .ro)), (10, .ro), (11, (.pr (.own .ro) (.own .ro)))])]
def q1n.F := q4v E q1n.C q1n.H Tryz.f103 q1n.ps q1n.rs
def q1n.L4 (k : Nat) (x0 : ByteArray) (x1 : ByteArray) (x2 : Int) (x8 : Book) (x9 : List ByteArray) (x10 : Int) (x11 : Book) : Option (List ByteArray × Int × Book) := atL E q1n.C q1n.H Tryz.f103 q1n.ps q1n.rs [true, true, true, true, true] 0 [] k (sh 73 [(0, .d .str x0 .ro), (1, .d .str x1 .ro), (2, .d (.int .i64) x2 .ro), (8, .box t39 x8 (.pr (.own .ro) (.own .ro)) none), (9, .d (.row .str) x9 (.own .ro)), (10, .d (.int .i64) x10 .ro), (11, .box t39 x11 (.pr (.own .ro) (.own .ro)) none)])
def q1n.f (k : Nat) (x0 : ByteArray) (x1 : ByteArray) (x2 : Int) : Option (List ByteArray × Int × Book) := q1n.F k (x0, x1, x2)
theorem q1n.f_eq (k : Nat) (x0 : ByteArray) (x1 : ByteArray) (x2 : Int) : q1n.f k x0 x1 x2 = (q2n.f k).bind fun (r0 : Book) => q1n.L4 k x0 x1 x2 (([] : List Aff), ([] : List En)) ([] : List ByteArray) (0 : Int) r0 := by kernel_rfl
theorem q1n.L4_eq (k : Nat) (x0 : ByteArray) (x1 : ByteArray) (x2 : Int) (x8 : Book) (x9 : List ByteArray) (x10 : Int) (x11 : Book) : q1n.L4 (k + 1) x0 x1 x2 x8 x9 x10 x11 = ifb (decide (0 ≤ x10) && (decide (x10 ≤ (x1.size : Int)) && decide ((x1.size : Int) ≤ (x1.size : Int)))) ((q1j.f k (x1.extract x10.toNat (x1.size : Int).toNat)).bind fun (r1 : ByteArray × Bool) => ifb (!r1.2) (some (x9, x10, x11)) (ifb (decide ((w64 (x10 + (r1.1.size : Int))) > x2)) (some (x9, x10, x11)) ((q0r.f k r1.1).bind fun (r2 : Release × Bool) => ifb (!r2.2) (some (x9, x10, x11)) ((q2m.f k x0 (x9.length : Int) x11 r2.1).bind fun (r3 : Book × Bool) => ifb (!r3.2) (some (x9, x10, x11)) (ifb (decide ((x9.length + [r1.1].length) * 16 ≤ q1m)) (q1n.L4 k x0 x1 x2 x8 (x9 ++ [r1.1]) (w64 (x10 + (r1.1.size : Int))) r3.1) (none)))))) (none) := by kernel_rfl
abbrev q1n.e (k : Nat) : FuncId × CE := (103, ⟨q1n.ps, q1n.rs, q1n.F k⟩)
theorem q1n.q (k : Nat) : Qs (q1n.e k) := qq (C := q1n.C) (fun k => .c (q2m.q k) <| .c (q0r.q k) <| .c (q2n.q k) <| .c (q1j.q k) <| .nil) k
def q25.C (k : Nat) : CEs := [q3q.e k, q3m.e k, q1n.e k]
abbrev q25.ps : List Par := [⟨t49, .rd⟩]
abbrev q25.rs : List Res := [⟨.bool, .ro, false⟩]
def q25.F := q4v E q25.C [] Tryz.f37 q25.ps q25.rs
def q25.f (k : Nat) (x0 : q0l) : Option (Bool) := q25.F k x0
theorem q25.f_eq (k : Nat) (x0 : q0l) : q25.f k x0 = (q3q.f k x0.1).bind fun (r0 : Bool) => ifb (!r0) (some false) (ifb (decide ((x0.2.2.2.2.size : Int) > (13270 : Int))) (some false) (ifb (!x0.2.1) (ifb (x0.2.2.1 == (0 : Int)) ((q3m.f k x0.2.2.2.1 (([] : List Aff), ([] : List En))).bind fun (r1 : Bool) => some r1) (some false)) (ifb (decide ((x0.2.2.2.2.size : Int) > (12000 : Int))) (some false) ((q1n.f k x0.1 x0.2.2.2.2 (12000 : Int)).bind fun (r2 : List ByteArray × Int × Book) => ifb (r2.2.1 == (x0.2.2.2.2.size : Int)) (ifb (x0.2.2.1 == (r2.1.length : Int)) ((q3m.f k x0.2.2.2.1 r2.2.2).bind fun (r3 : Bool) => some r3) (some false)) (some false))))) := by kernel_rfl
abbrev q25.e (k : Nat) : FuncId × CE := (37, ⟨q25.ps, q25.rs, q25.F k⟩)
theorem q25.q (k : Nat) : Qs (q25.e k) := qq (C := q25.C) (fun k => .c (q3q.q k) <| .c (q3m.q k) <| .c (q1n.q k) <| .nil) k
end
end Go.Proofs.YtjfkeknnjjlepaaGreatDoor.Rf
end

section
/- Functions of the program, told plainly, and their contracts: part A5. -/
namespace Go.Proofs.YtjfkeknnjjlepaaGreatDoor.Rf
open Go Go.RowKit
set_option linter.unusedVariables false
noncomputable section
def q35.C (k : Nat) : CEs := []
abbrev q35.ps : List Par := [⟨t39, .rd⟩]
abbrev q35.rs : List Res := [⟨t39, (.pr (.own .ro) (.own .ro)), false⟩]
def q35.F := q4v E q35.C [] Tryz.f174 q35.ps q35.rs
def q35.f (k : Nat) (x0 : Book) : Option Book := q35.F k x0
theorem q35.f_eq (k : Nat) (x0 : Book) : q35.f k x0 = ifb (decide ((([] : List Aff).length + x0.1.length) * 72 ≤ q1m)) (ifb (decide ((([] : List En).length + x0.2.length) * 32 ≤ q1m)) (some ((([] : List Aff) ++ x0.1), (([] : List En) ++ x0.2))) (none)) (none) := by kernel_rfl
abbrev q35.e (k : Nat) : FuncId × CE := (174, ⟨q35.ps, q35.rs, q35.F k⟩)
theorem q35.q (k : Nat) : Qs (q35.e k) := qq (C := q35.C) (fun k => .nil) k
end
end Go.Proofs.YtjfkeknnjjlepaaGreatDoor.Rf
end

section
/- Functions of the program, told plainly, and their contracts: part A6. -/
namespace Go.Proofs.YtjfkeknnjjlepaaGreatDoor.Rf
open Go Go.RowKit
set_option linter.unusedVariables false
noncomputable section
end
end Go.Proofs.YtjfkeknnjjlepaaGreatDoor.Rf
end

section
/- Functions of the program, told plainly, and their contracts: part A7. -/
namespace Go.Proofs.YtjfkeknnjjlepaaGreatDoor.Rf
open Go Go.RowKit
set_option linter.unusedVariables false
noncomputable section
end
end Go.Proofs.YtjfkeknnjjlepaaGreatDoor.Rf
end

section
/- All functions. -/
end

section
/- Words, affixes, entries of both sides. -/
namespace Go.Proofs.YtjfkeknnjjlepaaGreatDoor.Rf
open Go Go.RowKit
set_option linter.unusedVariables false
set_option linter.unusedSimpArgs false
theorem qn0 (n : Nat) : (decide ((n : Int) < 97) = !decide (97 ≤ n)) ∧ (decide ((n : Int) > 122) = !decide (n ≤ 122)) := by
  constructor
  · by_cases h : 97 ≤ n
    · rw [decide_eq_true h, decide_eq_false (by omega)]; rfl
    · rw [decide_eq_false h, decide_eq_true (by omega)]; rfl
  · by_cases h : n ≤ 122
    · rw [decide_eq_true h, decide_eq_false (by omega)]; rfl
    · rw [decide_eq_false h, decide_eq_true (by omega)]; rfl
theorem qt6 (n : Nat) : (decide ((n : Int) ≥ 65) = decide (65 ≤ n)) ∧ (decide ((n : Int) ≤ 90) = decide (n ≤ 90)) := by
  constructor
  · by_cases h : 65 ≤ n
    · rw [decide_eq_true h, decide_eq_true (by omega)]
    · rw [decide_eq_false h, decide_eq_false (by omega)]
  · by_cases h : n ≤ 90
    · rw [decide_eq_true h, decide_eq_true (by omega)]
    · rw [decide_eq_false h, decide_eq_false (by omega)]
theorem q7v (s : ByteArray) (h : Sm s.size) : Al fun k => q3b.f k s = some (qgf s) := by
  have key := q60 (G := fun k k1 x => q3b.L2 k k1 s (s.size : Int) x) (n := s.size) (fun i => quf (bN s i)) (stop := false) (fin := true)
    (Al2.succ (Al2.now fun k k1 => by simp only [q3b.L2_eq, at_end (Nat.lt_irrefl _), q08])) fun i hi r hr => by
      obtain ⟨c1, c2, c3, c4⟩ := q6t hi h
      refine Al2.succ (hr.mono fun k k1 e => ?_)
      simp only [q3b.L2_eq, c1, c2, c4, Bool.and_self, q06, q5q hi, (qn0 _).1, (qn0 _).2, e, quf]
      cases decide (97 ≤ bN s i) <;> cases decide (bN s i ≤ 122) <;> simp [q06, q08]
  refine key.diag.mono fun k e => ?_
  rw [q3b.f_eq, e, qgf]
  cases qa0 s.size fun i => quf (bN s i) <;> simp
theorem qgi (k : Nat) (a b c : Int) : q3g.f k a b c = some (decide (a ≥ b) && decide (a ≤ c)) := by
  rw [q3g.f_eq]
  cases decide (a ≥ b) <;> simp [q06, q08]
theorem qb0 (s : ByteArray) (h : Sm s.size) : Al fun k => q46.f k s = some (q7u s) :=
  (q7v s h).mono fun k e => by
    simp only [q46.f_eq, e, qgi, Option.bind_some, q7u, q50]
    have e1 : decide ((s.size : Int) ≥ 1) = decide (0 < s.size) := q8x 1 s.size
    have e2 : decide ((s.size : Int) ≤ 12) = decide (s.size ≤ 12) := q8x s.size 12
    rw [e1, e2]
    cases decide (0 < s.size) <;> cases decide (s.size ≤ 12) <;> simp [q06, q08]
theorem qcc (k : Nat) (n : Nat) : q4t.f k (n : Int) = some (upB n) := by
  rw [q4t.f_eq, (qt6 n).1, (qt6 n).2, upB]
  cases decide (65 ≤ n) <;> simp [q06, q08]
theorem qqi (n : Nat) : (((n : Int) == (1 : Int)) = decide (n = 1)) ∧ (((n : Int) != (1 : Int)) = !decide (n = 1)) := by
  by_cases h : n = 1
  · subst h; exact ⟨rfl, rfl⟩
  · have : ((n : Int) == (1 : Int)) = false := by simpa using (by omega : ¬ (n : Int) = 1)
    rw [decide_eq_false h, this, bne, this]; exact ⟨rfl, rfl⟩
theorem q9u (k : Nat) (s w : ByteArray) : q3t.f k s w = some (qiw s w) := by
  rw [q3t.f_eq, qiw, show decide ((s.size : Int) ≥ (w.size : Int)) = decide (w.size ≤ s.size) from q8x _ _]
  by_cases h : w.size ≤ s.size
  · have e : decide ((w.size : Int) ≤ (s.size : Int)) = true := decide_eq_true (by omega)
    have e0 : decide ((0 : Int) ≤ (w.size : Int)) = true := decide_eq_true (by omega)
    simp only [decide_eq_true h, e, e0, q06, Int.toNat_natCast, q5y, Bool.and_self, Int.toNat_zero, Bool.true_and, show decide ((0 : Int) ≤ 0) = true from rfl]
  · rw [decide_eq_false h, q08]; rfl
theorem qb1 (k : Nat) (s w : ByteArray) (hs : Sm s.size) : q4n.f k s w = some (qug s w) := by
  rw [q4n.f_eq, qug, show decide ((s.size : Int) ≥ (w.size : Int)) = decide (w.size ≤ s.size) from q8x _ _]
  unfold Sm at hs
  by_cases h : w.size ≤ s.size
  · have ew : w64 ((s.size : Int) - (w.size : Int)) = ((s.size - w.size : Nat) : Int) := by rw [w64, q6g (by omega) (by omega)]; omega
    have e1 : decide ((0 : Int) ≤ ((s.size - w.size : Nat) : Int)) = true := decide_eq_true (by omega)
    have e2 : decide (((s.size - w.size : Nat) : Int) ≤ (s.size : Int)) = true := decide_eq_true (by omega)
    have e3 : decide ((s.size : Int) ≤ (s.size : Int)) = true := decide_eq_true (by omega)
    simp only [decide_eq_true h, ew, e1, e2, e3, q06, Int.toNat_natCast, q5y, Bool.and_self, Bool.true_and]
  · rw [decide_eq_false h, q08]; rfl
theorem q5p (k : Nat) (s w : ByteArray) : strings_HasPrefix.f k s w = some (qiw s w) := by
  have := q9u k s w
  rw [q3t.f_eq] at this
  rw [strings_HasPrefix.f_eq, q0p.f_eq, this]
  rfl
theorem qav (k : Nat) (s w : ByteArray) (hs : Sm s.size) : strings_HasSuffix.f k s w = some (qug s w) := by
  have := qb1 k s w hs
  rw [q4n.f_eq] at this
  rw [strings_HasSuffix.f_eq, q19.f_eq, this]
  rfl
theorem qfk (a : Aff) (h : smA a) : Al fun k => q1r.f k a = some (qgx a) := by
  obtain ⟨h1, h2, h3, h4⟩ := h
  have gt4 : ∀ n : Nat, decide ((n : Int) > 4) = !decide (n ≤ 4) := fun n => by
    by_cases h : n ≤ 4
    · rw [decide_eq_true h, decide_eq_false (by omega)]; rfl
    · rw [decide_eq_false h, decide_eq_true (by omega)]; rfl
  have w1 : w64 (0 + 1) = 1 := by rw [w64, q6g (by omega) (by omega)]; rfl
  have w2 : w64 (1 + 1) = 2 := by rw [w64, q6g (by omega) (by omega)]; rfl
  have w3 : w64 (2 + 1) = 3 := by rw [w64, q6g (by omega) (by omega)]; rfl
  have fin : Al2 fun k k1 => q1r.L4 k k1 a [a.2.2.1, a.2.2.2.1, a.2.2.2.2] 3 3 = some (if a.2.1 then qiw a.2.2.2.2 a.2.2.1 else qug a.2.2.2.2 a.2.2.1) :=
    Al2.succ (Al2.now fun k k1 => by
      simp only [q1r.L4_eq, show decide ((3 : Int) < 3) = false from rfl, q08, q5p, qav _ _ _ h4, Option.bind_some]
      cases a.2.1 <;> simp [q06, q08])
  have s2 : Al2 fun k k1 => q1r.L4 k k1 a [a.2.2.1, a.2.2.2.1, a.2.2.2.2] 3 2 = some (q50 a.2.2.2.2 4 && if a.2.1 then qiw a.2.2.2.2 a.2.2.1 else qug a.2.2.2.2 a.2.2.1) := Al2.succ (((q7v _ h4).snd.and fin).mono fun k k1 ⟨e1, e2⟩ => by
      simp only [q1r.L4_eq, show decide ((2 : Int) < 3) = true from rfl, q06, w3, show [a.2.2.1, a.2.2.2.1, a.2.2.2.2].getD (2 : Int).toNat bz = a.2.2.2.2 from rfl, e1, e2, gt4, Option.bind_some, q50, show decide ((2 : Int) < ([a.2.2.1, a.2.2.2.1, a.2.2.2.2].length : Int)) = true from rfl, show decide ((0 : Int) ≤ 2) = true from rfl, Bool.and_self]
      cases qgf a.2.2.2.2 <;> cases decide (a.2.2.2.2.size ≤ 4) <;> simp [q06, q08])
  have s1 : Al2 fun k k1 => q1r.L4 k k1 a [a.2.2.1, a.2.2.2.1, a.2.2.2.2] 3 1 = some (q50 a.2.2.2.1 4 && (q50 a.2.2.2.2 4 && if a.2.1 then qiw a.2.2.2.2 a.2.2.1 else qug a.2.2.2.2 a.2.2.1)) := Al2.succ (((q7v _ h3).snd.and s2).mono fun k k1 ⟨e1, e2⟩ => by
      simp only [q1r.L4_eq, show decide ((1 : Int) < 3) = true from rfl, q06, w2, show [a.2.2.1, a.2.2.2.1, a.2.2.2.2].getD (1 : Int).toNat bz = a.2.2.2.1 from rfl, e1, e2, gt4, Option.bind_some, show decide ((1 : Int) < ([a.2.2.1, a.2.2.2.1, a.2.2.2.2].length : Int)) = true from rfl, show decide ((0 : Int) ≤ 1) = true from rfl, Bool.and_self]
      simp only [show q50 a.2.2.2.1 4 = (qgf a.2.2.2.1 && decide (a.2.2.2.1.size ≤ 4)) from rfl]
      cases qgf a.2.2.2.1 <;> cases decide (a.2.2.2.1.size ≤ 4) <;> simp [q06, q08])
  have s0 : Al2 fun k k1 => q1r.L4 k k1 a [a.2.2.1, a.2.2.2.1, a.2.2.2.2] 3 0 = some (q50 a.2.2.1 4 && (q50 a.2.2.2.1 4 && (q50 a.2.2.2.2 4 && if a.2.1 then qiw a.2.2.2.2 a.2.2.1 else qug a.2.2.2.2 a.2.2.1))) := Al2.succ (((q7v _ h2).snd.and s1).mono fun k k1 ⟨e1, e2⟩ => by
      simp only [q1r.L4_eq, show decide ((0 : Int) < 3) = true from rfl, q06, w1, show [a.2.2.1, a.2.2.2.1, a.2.2.2.2].getD (0 : Int).toNat bz = a.2.2.1 from rfl, e1, e2, gt4, Option.bind_some, show decide ((0 : Int) < ([a.2.2.1, a.2.2.2.1, a.2.2.2.2].length : Int)) = true from rfl, show decide ((0 : Int) ≤ 0) = true from rfl, Bool.and_self]
      simp only [show q50 a.2.2.1 4 = (qgf a.2.2.1 && decide (a.2.2.1.size ≤ 4)) from rfl]
      cases qgf a.2.2.1 <;> cases decide (a.2.2.1.size ≤ 4) <;> simp [q06, q08])
  refine s0.diag.mono fun k e => ?_
  rw [q1r.f_eq, (qqi _).2, qgx, qgg]
  by_cases h : a.1.size = 1
  · have hi : 0 < a.1.size := by omega
    rw [show q38 a.1 (0 : Int) = (bN a.1 0 : Int) from q5q hi, qcc, show (([a.2.2.1, a.2.2.2.1, a.2.2.2.2].length : Nat) : Int) = 3 from rfl, e, decide_eq_true h]
    have e2 : decide ((0 : Int) < (a.1.size : Int)) = true := decide_eq_true (by omega)
    simp only [e2, show decide ((0 : Int) ≤ 0) = true from rfl, Bool.and_self, q06, q08, Bool.not_true, Option.bind_some]
    cases upB (bN a.1 0) <;> simp [q06, q08]
  · rw [decide_eq_false h, Bool.not_false, q06]; rfl
theorem quj (a b : Nat) : decide ((a : Int) ≥ (b : Int)) = !decide (a < b) := by
  by_cases h : a < b
  · rw [decide_eq_true h, decide_eq_false (by omega)]; rfl
  · rw [decide_eq_false h, decide_eq_true (by omega)]; rfl
theorem qfl (e : En) (h : smE e) : Al fun k => q2h.f k e = some (qau e) := by
  obtain ⟨h1, h2⟩ := h
  have key := q60 (G := fun k k1 x => q2h.L2 k k1 e (e.2.size : Int) x) (n := e.2.size) (fun i => upB (bN e.2 i) && (decide (i = 0) || decide (bN e.2 (i - 1) < bN e.2 i))) (stop := false) (fin := q7u e.1 && decide (e.2.size ≤ 4))
    (Al2.succ ((qb0 e.1 h1).fst.mono fun k k1 w => by
      simp only [q2h.L2_eq, at_end (Nat.lt_irrefl _), q08, w, Option.bind_some, show decide ((e.2.size : Int) ≤ 4) = decide (e.2.size ≤ 4) from q8x _ 4]
      cases q7u e.1 <;> simp [q06, q08])) fun i hi r hr => by
      obtain ⟨c1, c2, c3, c4⟩ := q6t hi h2
      refine Al2.succ (hr.mono fun k k1 e1 => ?_)
      simp only [q2h.L2_eq, c1, c2, c3, w64, c4, Bool.and_self, q06, q5q hi, qcc, Option.bind_some, e1]
      by_cases h0 : 0 < i
      · obtain ⟨d1, d2, d3, d4, d5⟩ := qbn h0 hi h2
        simp only [d1, d2, d3, d4, Bool.and_self, q06, q5q (show i - 1 < e.2.size by omega), quj, show decide (i = 0) = false from decide_eq_false (by omega), Bool.false_or]
        cases upB (bN e.2 i) <;> cases decide (bN e.2 (i - 1) < bN e.2 i) <;> simp [q06, q08]
      · simp only [qam h0, q08, show decide (i = 0) = true from decide_eq_true (by omega), Bool.true_or, Bool.and_true]
        cases upB (bN e.2 i) <;> simp [q06, q08]
  refine key.diag.mono fun k e1 => ?_
  rw [q2h.f_eq, e1, qau]
  cases qa0 e.2.size _ <;> simp
end Go.Proofs.YtjfkeknnjjlepaaGreatDoor.Rf
end

section
/- Affixes, entries, words, books, deltas: what is ok, both sides. -/
namespace Go.Proofs.YtjfkeknnjjlepaaGreatDoor.Rf
open Go Go.RowKit
set_option linter.unusedVariables false
set_option linter.unusedSimpArgs false
theorem q9k {α : Type} {l : List α} {i : Nat} (z : α) (h : i < l.length) : l.getD i z ∈ l := by
  rw [List.getD_eq_getElem?_getD, List.getElem?_eq_getElem h]
  exact List.getElem_mem h
theorem qve {α : Type} (b : Bool) (x y : Option α) : ifb (!b) x y = ifb b y x := by cases b <;> simp [q06, q08]
theorem qfm (a b : Aff) : ((a.1.toList == b.1.toList) && ((a.2.1 == b.2.1) && ((a.2.2.1.toList == b.2.2.1.toList) && ((a.2.2.2.1.toList == b.2.2.2.1.toList) && (a.2.2.2.2.toList == b.2.2.2.2.toList))))) = decide (a = b) := by
  obtain ⟨a1, a2, a3, a4, a5⟩ := a
  obtain ⟨b1, b2, b3, b4, b5⟩ := b
  simp only [q5y]
  rw [Bool.eq_iff_iff]
  simp only [Bool.and_eq_true, decide_eq_true_eq, beq_iff_eq, Prod.mk.injEq]
theorem qfn (l : List Aff) (a : Aff) (hS : Sm l.length) : Al fun k => q0c.f k l a = some (l.any fun x => decide (x = a)) := by
  have key : ∀ (s : List Aff) (i : Nat), l.drop i = s → Al2 fun k k1 => ∃ r, q05.L2 k k1 l a (l.length : Int) (i : Int) = some r ∧ decide (r ≥ 0) = s.any fun x => decide (x = a) := by
    intro s
    induction s with
    | nil =>
      intro i hd
      refine Al2.succ (Al2.now fun k k1 => ⟨-1, ?_, rfl⟩)
      simp only [q05.L2_eq, at_end (drop_nil hd), q08]
    | cons x s ih =>
      intro i hd
      obtain ⟨hi, g1, g2⟩ := q45 zA hd
      obtain ⟨c1, c2, c3, c4⟩ := q6t hi hS
      refine Al2.succ ((ih (i + 1) g2).mono fun k k1 ⟨r, e1, e2⟩ => ?_)
      simp only [q05.L2_eq, c1, c2, c3, w64, c4, g1, Bool.and_self, q06, qfm, e1]
      by_cases hx : x = a
      · refine ⟨i, ?_, ?_⟩
        · rw [decide_eq_true hx.symm, q06]
        · rw [List.any_cons, decide_eq_true hx]; exact c2
      · refine ⟨r, ?_, ?_⟩
        · rw [decide_eq_false (fun h => hx h.symm), q08]
        · rw [List.any_cons, decide_eq_false hx]; exact e2
  refine (key l 0 rfl).diag.mono fun k ⟨r, e1, e2⟩ => ?_
  rw [q0c.f_eq, q05.f_eq, show ((0 : Nat) : Int) = 0 from rfl] at *
  rw [e1, Option.bind_some, e2]
theorem qt7 (l : List Aff) (a : Aff) (i : Nat) (hi : i ≤ l.length) : ((l.take i).any fun x => decide (x = a)) = !qa0 i fun j => !decide (l.getD j zA = a) := by
  rw [Bool.eq_iff_iff, List.any_eq_true, Bool.not_eq_true', ← Bool.not_eq_true, q5b]
  constructor
  · rintro ⟨x, hx, h⟩ k
    obtain ⟨j, hj⟩ := List.getElem?_of_mem hx
    rw [List.getElem?_take] at hj
    split at hj
    · rename_i hji
      have := k j hji
      rw [List.getD_eq_getElem?_getD, hj] at this
      simp at this h
      exact this h
    · cases hj
  · intro h
    apply Decidable.byContradiction
    intro hn
    refine h fun j hj => ?_
    have hm : l.getD j zA ∈ l.take i := by
      rw [List.mem_iff_getElem?]
      exact ⟨j, by rw [List.getElem?_take, if_pos hj, List.getD_eq_getElem?_getD, List.getElem?_eq_getElem (by omega)]; rfl⟩
    simp only [Bool.not_eq_true', decide_eq_false_iff_not]
    intro e
    exact hn ⟨_, hm, by simpa using e⟩
theorem q90 (l : List Aff) (hl : l.length ≤ 1099511627776) (h : ∀ a ∈ l, smA a) : Al fun k => q1a.f k l = some (q8y l) := by
  have hS : Sm l.length := by unfold Sm; omega
  have key := q60 (G := fun k k1 x => q1a.L2 k k1 l l (l.length : Int) x) (n := l.length) (fun i => qgx (l.getD i zA) && qa0 i fun j => !decide (l.getD j zA = l.getD i zA)) (stop := false) (fin := decide (l.length ≤ 8))
    (Al2.succ (Al2.now fun k k1 => by simp only [q1a.L2_eq, at_end (Nat.lt_irrefl _), q08, show decide ((l.length : Int) ≤ 8) = decide (l.length ≤ 8) from q8x _ 8])) fun i hi r hr => by
      obtain ⟨c1, c2, c3, c4⟩ := q6t hi hS
      have hc := qfn (l.take i) (l.getD i zA) (by unfold Sm at *; rw [List.length_take]; omega)
      rw [qt7 _ _ _ (by omega)] at hc
      refine Al2.succ ((((qfk _ (h _ (q9k zA hi))).snd.and hc.snd).and hr).mono fun k k1 ⟨⟨e1, e2⟩, e3⟩ => ?_)
      simp only [q1a.L2_eq, c1, c2, c3, w64, c4, show decide ((i : Int) ≤ (l.length : Int)) = true from decide_eq_true (by omega), show decide ((0 : Int) ≤ 0) = true from rfl, Int.toNat_zero, List.drop_zero, Bool.and_self, q06, e1, e2, e3, Option.bind_some]
      cases qgx (l.getD i zA) <;> cases qa0 i _ <;> simp [q06, q08]
  refine key.diag.mono fun k e => ?_
  rw [q1a.f_eq, e, q8y]
  cases qa0 l.length _ <;> simp
theorem q91 (l : List En) (h3 : l.length ≤ 1099511627776) (h4 : ∀ e ∈ l, smE e) : Al fun k => q15.f k l = some (qaa l) := by
  have hS : Sm l.length := by unfold Sm; omega
  have key := q60 (G := fun k k1 x => q15.L2 k k1 l l (l.length : Int) x) (n := l.length) (fun i => qau (l.getD i zE) && (decide (i = 0) || ltS (l.getD (i - 1) zE).1 (l.getD i zE).1)) (stop := false) (fin := decide (l.length ≤ 24))
    (Al2.succ (Al2.now fun k k1 => by simp only [q15.L2_eq, at_end (Nat.lt_irrefl _), q08, show decide ((l.length : Int) ≤ 24) = decide (l.length ≤ 24) from q8x _ 24])) fun i hi r hr => by
      obtain ⟨c1, c2, c3, c4⟩ := q6t hi hS
      refine Al2.succ (((qfl _ (h4 _ (q9k zE hi))).snd.and hr).mono fun k k1 ⟨e1, e2⟩ => ?_)
      simp only [q15.L2_eq, c1, c2, c3, w64, c4, Bool.and_self, q06, e1, e2, Option.bind_some]
      by_cases h0 : 0 < i
      · obtain ⟨d1, d2, d3, d4, d5⟩ := qbn h0 hi hS
        simp only [d1, d2, d3, d4, d5, Bool.and_self, q06, show decide (i = 0) = false from decide_eq_false (by omega), Bool.false_or, ltS]
        cases qau (l.getD i zE) <;> cases Op.bytesLess _ _ <;> simp [q06, q08]
      · simp only [qam h0, q08, show decide (i = 0) = true from decide_eq_true (by omega), Bool.true_or, Bool.and_true]
        cases qau (l.getD i zE) <;> simp [q06, q08]
  refine key.diag.mono fun k e => ?_
  rw [q15.f_eq, e, qaa]
  cases qa0 l.length _ <;> simp
theorem q7d (b : Book) (h : smB b) : Al fun k => q3s.f k b = some (q5r b) :=
  ((q90 b.1 h.1.1 h.1.2).and (q91 b.2 h.2.1 h.2.2)).mono fun k ⟨e1, e2⟩ => by
    simp only [q3s.f_eq, e1, e2, Option.bind_some, q5r]
    cases q8y b.1 <;> simp [q06, q08]
theorem qfo (l : List ByteArray) (h3 : l.length ≤ 1099511627776) (h4 : ∀ s ∈ l, Sm s.size) : Al fun k => q2i.f k l 24 = some (qdy l) := by
  have hS : Sm l.length := by unfold Sm; omega
  have key := q60 (G := fun k k1 x => q2i.L2 k k1 l 24 l (l.length : Int) x) (n := l.length) (fun i => q7u (l.getD i bz) && (decide (i = 0) || ltS (l.getD (i - 1) bz) (l.getD i bz))) (stop := false) (fin := decide (l.length ≤ 24))
    (Al2.succ (Al2.now fun k k1 => by simp only [q2i.L2_eq, at_end (Nat.lt_irrefl _), q08, show decide ((l.length : Int) ≤ 24) = decide (l.length ≤ 24) from q8x _ 24])) fun i hi r hr => by
      obtain ⟨c1, c2, c3, c4⟩ := q6t hi hS
      refine Al2.succ (((qb0 _ (h4 _ (q9k bz hi))).snd.and hr).mono fun k k1 ⟨e1, e2⟩ => ?_)
      simp only [q2i.L2_eq, c1, c2, c3, w64, c4, Bool.and_self, q06, e1, e2, Option.bind_some]
      by_cases h0 : 0 < i
      · obtain ⟨d1, d2, d3, d4, d5⟩ := qbn h0 hi hS
        simp only [d1, d2, d3, d4, d5, Bool.and_self, q06, show decide (i = 0) = false from decide_eq_false (by omega), Bool.false_or, ltS]
        cases q7u (l.getD i bz) <;> cases Op.bytesLess _ _ <;> simp [q06, q08]
      · simp only [qam h0, q08, show decide (i = 0) = true from decide_eq_true (by omega), Bool.true_or, Bool.and_true]
        cases q7u (l.getD i bz) <;> simp [q06, q08]
  refine key.diag.mono fun k e => ?_
  rw [q2i.f_eq, e, qdy]
  cases qa0 l.length _ <;> simp
theorem qfp (l : List En) (s : ByteArray) : decide (qui l s ≥ 0) = qaz l s := by
  have := Lib.idxBy_nonneg_iff (fun _ y => y.1.toList == s.toList) l (default : En)
  show decide (0 ≤ Lib.idxBy _ l default) = _
  rw [this]
  unfold qaz
  congr 1
  funext e
  exact q5y _ _
theorem qi7 (l : List En) (s : ByteArray) : decide (qui l s < 0) = !qaz l s := by
  rw [← qfp]
  by_cases h : qui l s < 0
  · rw [decide_eq_true h, decide_eq_false (by omega)]; rfl
  · rw [decide_eq_false h, decide_eq_true (by omega)]; rfl
theorem qap (k : Nat) (l : List En) (s : ByteArray) (h : Sm l.length) : q3f.f k l s = some (qui l s) := by
  unfold q3f.f q3f.F
  exact if_pos h
theorem q92 {α : Type} (l : List α) (z : α) (p : α → Bool) : (qa0 l.length fun i => p (l.getD i z)) = l.all p := by
  rw [Bool.eq_iff_iff, q5b, List.all_eq_true]
  constructor
  · intro h x hx
    obtain ⟨i, hi⟩ := List.getElem?_of_mem hx
    have hl := (List.getElem?_eq_some_iff.1 hi).1
    have := h i hl
    rwa [List.getD_eq_getElem?_getD, hi] at this
  · exact fun h i hi => h _ (q9k z hi)
theorem q66 (d : Delta) (h : smD d) : Al fun k => q1f.f k d = some (q5h d) := by
  obtain ⟨⟨h1, h2⟩, ⟨h3, h4⟩, h5, h6⟩ := h
  have hS : Sm d.1.length := by unfold Sm; omega
  have hC : Sm d.2.1.length := by unfold Sm; omega
  have key := q60 (G := fun k k1 x => q1f.L4 k k1 d d.1 (d.1.length : Int) x) (n := d.1.length) (fun i => !qaz d.2.1 (d.1.getD i bz)) (stop := false) (fin := true)
    (Al2.succ (Al2.now fun k k1 => by simp only [q1f.L4_eq, at_end (Nat.lt_irrefl _), q08])) fun i hi r hr => by
      obtain ⟨c1, c2, c3, c4⟩ := q6t hi hS
      refine Al2.succ (hr.mono fun k k1 e => ?_)
      simp only [q1f.L4_eq, c1, c2, c3, w64, c4, Bool.and_self, q06, qap _ _ _ hC, Option.bind_some, qfp, e]
      cases qaz d.2.1 (d.1.getD i bz) <;> simp [q06, q08]
  rw [q92 d.1 bz fun s => !qaz d.2.1 s] at key
  refine ((((qfo d.1 h1 h2).and (q91 d.2.1 h3 h4)).and (q90 d.2.2.2 h5 h6)).and key.diag).mono fun k ⟨⟨⟨e1, e2⟩, e3⟩, e4⟩ => ?_
  have gt : decide ((d.2.2.2.length : Int) > 0) = !decide (d.2.2.2.length = 0) := by
    by_cases h : d.2.2.2.length = 0
    · rw [decide_eq_true h, decide_eq_false (by omega)]; rfl
    · rw [decide_eq_false h, decide_eq_true (by omega)]; rfl
  simp only [q1f.f_eq, e1, e2, e3, e4, Option.bind_some, gt, q5h, qve]
  cases qdy d.1 <;> cases qaa d.2.1 <;> cases q8y d.2.2.2 <;> cases d.2.2.1 <;> cases decide (d.2.2.2.length = 0) <;> cases d.1.all _ <;> simp [q06, q08]
end Go.Proofs.YtjfkeknnjjlepaaGreatDoor.Rf
end

section
/- A delta done to a book, both sides. -/
namespace Go.Proofs.YtjfkeknnjjlepaaGreatDoor.Rf
open Go Go.RowKit
set_option linter.unusedVariables false
set_option linter.unusedSimpArgs false
theorem q5t (k : Nat) (b : Book) (h1 : b.1.length ≤ 1099511627776) (h2 : b.2.length ≤ 1099511627776) : q35.f k b = some b := by
  rw [q35.f_eq]
  have e1 : decide ((([] : List Aff).length + b.1.length) * 72 ≤ q1m) = true := decide_eq_true (by simp [q1m]; omega)
  have e2 : decide ((([] : List En).length + b.2.length) * 32 ≤ q1m) = true := decide_eq_true (by simp [q1m]; omega)
  rw [e1, e2, q06, q06]
  simp
theorem q69 (k : Nat) (b : Book) (h1 : b.1.length ≤ 1099511627776) (h2 : b.2.length ≤ 1099511627776) : q23.f k b = some b := by
  have := q5t k b h1 h2
  rw [q35.f_eq] at this
  rw [q23.f_eq, this]
def qo9 (l : List ByteArray) (s : ByteArray) : Bool := l.any fun x => decide (x = s)
theorem qfq (l : List ByteArray) (s : ByteArray) (hS : Sm l.length) : Al fun k => q0j.f k l s = some (qo9 l s) := by
  have key : ∀ (t : List ByteArray) (i : Nat), l.drop i = t → Al2 fun k k1 => ∃ r, q0b.L2 k k1 l s (l.length : Int) (i : Int) = some r ∧ decide (r ≥ 0) = qo9 t s := by
    intro t
    induction t with
    | nil =>
      intro i hd
      refine Al2.succ (Al2.now fun k k1 => ⟨-1, ?_, rfl⟩)
      simp only [q0b.L2_eq, at_end (drop_nil hd), q08]
    | cons x t ih =>
      intro i hd
      obtain ⟨hi, g1, g2⟩ := q45 bz hd
      obtain ⟨c1, c2, c3, c4⟩ := q6t hi hS
      refine Al2.succ ((ih (i + 1) g2).mono fun k k1 ⟨r, e1, e2⟩ => ?_)
      simp only [q0b.L2_eq, c1, c2, c3, w64, c4, g1, Bool.and_self, q06, q5y, e1]
      by_cases hx : x = s
      · refine ⟨i, ?_, ?_⟩
        · rw [decide_eq_true hx.symm, q06]
        · rw [qo9, List.any_cons, decide_eq_true hx]; exact c2
      · refine ⟨r, ?_, ?_⟩
        · rw [decide_eq_false (fun h => hx h.symm), q08]
        · rw [qo9, List.any_cons, decide_eq_false hx]; exact e2
  refine (key l 0 rfl).diag.mono fun k ⟨r, e1, e2⟩ => ?_
  rw [show ((0 : Nat) : Int) = 0 from rfl] at e1
  rw [q0j.f_eq, q0b.f_eq, e1, Option.bind_some, e2]
theorem qwy {l : List En} (h : (qa0 l.length fun i => qau (l.getD i zE) && (decide (i = 0) || ltS (l.getD (i - 1) zE).1 (l.getD i zE).1)) = true) : l.Pairwise fun a b => ltE a b = true := by
  rw [q5b] at h
  have step : ∀ i, i + 1 < l.length → ltE (l.getD i zE) (l.getD (i + 1) zE) = true := by
    intro i hi
    have := h (i + 1) hi
    simp only [Bool.and_eq_true, Bool.or_eq_true, decide_eq_true_eq, Nat.add_sub_cancel] at this
    exact this.2.resolve_left (by omega)
  rw [List.pairwise_iff_getElem]
  have far : ∀ d i, i + d + 1 < l.length → ltE (l.getD i zE) (l.getD (i + d + 1) zE) = true := by
    intro d
    induction d with
    | zero => exact fun i hi => step i hi
    | succ d ih => exact fun i hi => qff (ih i (by omega)) (step (i + d + 1) hi)
  intro i j hi hj hij
  have := far (j - i - 1) i (by omega)
  rw [show i + (j - i - 1) + 1 = j by omega] at this
  rwa [List.getD_eq_getElem?_getD, List.getElem?_eq_getElem hi, List.getD_eq_getElem?_getD, List.getElem?_eq_getElem hj] at this
theorem qn1 {l : List En} (h : qaa l = true) : l.Pairwise fun a b => ltE a b = true := by
  rw [qaa, Bool.and_eq_true] at h
  exact qwy h.1
theorem quk {a b : En} (h : ltE a b = true) : a.1 ≠ b.1 := by
  intro e
  unfold ltE at h
  rw [e] at h
  have := qao b
  unfold ltE at this
  rw [this] at h
  cases h
theorem qfr (e : En) (l : List En) : (qen e l).length = l.length + 1 := by
  have := (qca e l).length_eq
  simpa using this
def qi8 (b : Book) (d : Delta) : List En := b.2.filter fun e => !qaz d.2.1 e.1 && !qo9 d.1 e.1
def doB (b : Book) (d : Delta) : Book := (if d.2.2.1 then d.2.2.2 else b.1, d.2.1.foldl (fun l e => qen e l) (qi8 b d))
def q5e (b : Book) (d : Delta) : Book × Bool := if q5r b && q5h d then (if (d.1.all fun s => qaz b.2 s) && q5r (doB b d) then (doB b d, true) else (b, false)) else (([], []), false)
theorem qfs : ∀ (xs l : List En), (xs.foldl (fun l e => qen e l) l).length = l.length + xs.length
  | [], l => by simp
  | x :: xs, l => by rw [List.foldl_cons, qfs xs, qfr, List.length_cons]; omega
theorem qn2 {b : Book} (h : q5r b = true) : b.1.length ≤ 8 ∧ b.2.length ≤ 24 := by
  simp only [q5r, q8y, qaa, Bool.and_eq_true, decide_eq_true_eq] at h
  exact ⟨h.1.2, h.2.2⟩
theorem qi9 {d : Delta} (h : q5h d = true) : d.1.length ≤ 24 ∧ d.2.1.length ≤ 24 ∧ d.2.2.2.length ≤ 8 := by
  simp only [q5h, qdy, q8y, qaa, Bool.and_eq_true, decide_eq_true_eq] at h
  exact ⟨h.1.2, h.2.1.2, h.2.2.1.2⟩
theorem qln {b : Book} (h : q5r b = true) : b.2.Pairwise fun a b => ltE a b = true := by
  simp only [q5r, Bool.and_eq_true] at h
  exact qn1 h.2
theorem qqj {d : Delta} (h : q5h d = true) : d.2.1.Pairwise fun a b => ltE a b = true := by
  simp only [q5h, Bool.and_eq_true] at h
  exact qn1 h.2.1
theorem qt8 : ∀ (xs l : List En) (x : En), x ∈ xs.foldl (fun l e => qen e l) l ↔ x ∈ l ∨ x ∈ xs := by
  intro xs l x
  rw [(qfh xs l).mem_iff, List.mem_append]
theorem qqk {b : Book} {d : Delta} (hb : smB b) (hd : smD d) (h1 : b.1.length ≤ 8 ∧ b.2.length ≤ 24) (h2 : d.1.length ≤ 24 ∧ d.2.1.length ≤ 24 ∧ d.2.2.2.length ≤ 8) : smB (doB b d) := by
  obtain ⟨⟨a1, a2⟩, a3, a4⟩ := hb
  obtain ⟨⟨b1, b2⟩, ⟨b3, b4⟩, b5, b6⟩ := hd
  have hl : (qi8 b d).length ≤ b.2.length := List.length_filter_le _ _
  refine ⟨⟨?_, fun a ha => ?_⟩, ?_, fun e he => ?_⟩
  · simp only [doB]; split <;> omega
  · simp only [doB] at ha; split at ha
    · exact b6 a ha
    · exact a2 a ha
  · simp only [doB, qfs]; omega
  · simp only [doB, qt8] at he
    rcases he with he | he
    · exact a4 e (List.mem_filter.1 he).1
    · exact b4 e he
theorem qn3 {b : Book} (d : Delta) (h : b.2.Pairwise fun a b => ltE a b = true) : (qi8 b d).Pairwise fun a b => ltE a b = true := h.sublist List.filter_sublist
theorem qoa {b : Book} {d : Delta} (h : b.2.Pairwise fun a b => ltE a b = true) (hc : d.2.1.Pairwise fun a b => ltE a b = true) : ((qi8 b d ++ d.2.1).map fun e => e.1).Pairwise fun a b => a ≠ b := by
  rw [List.map_append, List.pairwise_append]
  refine ⟨?_, ?_, ?_⟩
  · rw [List.pairwise_map]; exact (qn3 d h).imp fun h => quk h
  · rw [List.pairwise_map]; exact hc.imp fun h => quk h
  · intro x hx y hy e
    obtain ⟨e1, h1, rfl⟩ := List.mem_map.1 hx
    obtain ⟨e2, h2, rfl⟩ := List.mem_map.1 hy
    have := (List.mem_filter.1 h1).2
    simp only [Bool.and_eq_true, Bool.not_eq_true', qaz] at this
    have h3 := List.any_eq_false.1 this.1 e2 h2
    simp only [decide_eq_true_eq] at h3
    exact h3 e.symm
theorem qvf (k : Nat) (l : List En) (h1 : (l.map fun e => e.1).Pairwise fun a b => a ≠ b) (h2 : l.length < 4611686018427387904) : q2q.f k l = some (qbo l) := by
  unfold q2q.f q2q.F
  exact if_pos ⟨h1, h2⟩
theorem qft (b : Book) (d : Delta) (hb : smB b) (hd : smD d) : Al fun k => q0k.f k b d = some (q5e b d) := by
  have e0 := (q7d b hb).and (q66 d hd)
  cases h1 : q5r b
  · refine e0.mono fun k ⟨e1, e2⟩ => ?_
    simp only [q0k.f_eq, e1, h1, Option.bind_some, Bool.not_false, q06, q5e, Bool.false_and, Bool.false_eq_true, if_false]
  cases h2 : q5h d
  · refine e0.mono fun k ⟨e1, e2⟩ => ?_
    simp only [q0k.f_eq, e1, e2, h1, h2, Option.bind_some, Bool.not_false, Bool.not_true, q06, q08, q5e, Bool.true_and, Bool.false_eq_true, if_false]
  obtain ⟨n1, n2⟩ := qn2 h1
  obtain ⟨n3, n4, n5⟩ := qi9 h2
  have hS : Sm d.1.length := by unfold Sm; omega
  have hE : Sm b.2.length := by unfold Sm; omega
  have hC : Sm d.2.1.length := by unfold Sm; omega
  have hk : (qi8 b d).length ≤ 24 := Nat.le_trans (List.length_filter_le _ _) n2
  have tail : ∀ x6 : Book, smB x6 → Al fun k => q0k.J20 k b ([], []) x6 = some (if q5r x6 then (x6, true) else (b, false)) := fun x6 h6 => Al.succ ((q7d x6 h6).mono fun k e => by
    simp only [q0k.J20_eq, e, Option.bind_some, q69 k b (by omega) (by omega)]
    cases q5r x6 <;> simp [q06, q08])
  have hsort : qbo (qi8 b d ++ d.2.1) = d.2.1.foldl (fun l e => qen e l) (qi8 b d) := qjy _ _ (qn3 d (qln h1))
  have two : ∀ (t : List En) (i : Nat) (l : List En), b.2.drop i = t → l ++ (t.filter fun e => !qaz d.2.1 e.1 && !qo9 d.1 e.1) = qi8 b d → Al2 fun k k1 => q0k.L11 k k1 b d ([], []) (b.1, l) b.2 (b.2.length : Int) (i : Int) = some (if q5r (doB b d) then (doB b d, true) else (b, false)) := by
    intro t
    induction t with
    | nil =>
      intro i l ht hl
      simp only [List.filter_nil, List.append_nil] at hl
      subst hl
      refine Al2.succ ((tail _ (qqk hb hd ⟨n1, n2⟩ ⟨n3, n4, n5⟩)).fst.mono fun k k1 e => ?_)
      have m1 : decide (((qi8 b d).length + d.2.1.length) * 32 ≤ q1m) = true := decide_eq_true (by simp [q1m]; omega)
      have m2 : decide ((([] : List Aff).length + d.2.2.2.length) * 72 ≤ q1m) = true := decide_eq_true (by simp [q1m]; omega)
      simp only [q0k.L11_eq, at_end (drop_nil ht), q08, m1, m2, q06, qvf k _ (qoa (qln h1) (qqj h2)) (by rw [List.length_append]; omega), Option.bind_some, hsort, List.nil_append]
      unfold doB at e ⊢
      cases hf : d.2.2.1
      · rw [hf] at e; simpa [q08] using e
      · rw [hf] at e; simpa [q06] using e
    | cons x t ih =>
      intro i l ht hl
      obtain ⟨hi, g1, g2⟩ := q45 zE ht
      obtain ⟨c1, c2, c3, c4⟩ := q6t hi hE
      have hll : l.length ≤ 24 := by have := congrArg List.length hl; rw [List.length_append] at this; omega
      have m1 : decide ((l.length + [x].length) * 32 ≤ q1m) = true := decide_eq_true (by simp [q1m]; omega)
      rw [List.filter_cons] at hl
      have e0 := qfq d.1 x.1 hS
      cases ha : qo9 d.1 x.1
      · cases hb' : qaz d.2.1 x.1
        · have := ih (i + 1) (l ++ [x]) g2 (by simpa [ha, hb'] using hl)
          refine Al2.succ ((e0.snd.and this).mono fun k k1 ⟨e1, e2⟩ => ?_)
          simp only [q0k.L11_eq, c1, c2, c3, w64, c4, g1, Bool.and_self, q06, e1, ha, Option.bind_some, qap _ _ _ hC, qi7, hb', Bool.not_false, m1]
          exact e2
        · have := ih (i + 1) l g2 (by simpa [ha, hb'] using hl)
          refine Al2.succ ((e0.snd.and this).mono fun k k1 ⟨e1, e2⟩ => ?_)
          simp only [q0k.L11_eq, c1, c2, c3, w64, c4, g1, Bool.and_self, q06, e1, ha, Option.bind_some, qap _ _ _ hC, qi7, hb', Bool.not_false, Bool.not_true, q08]
          exact e2
      · have := ih (i + 1) l g2 (by simpa [ha] using hl)
        refine Al2.succ ((e0.snd.and this).mono fun k k1 ⟨e1, e2⟩ => ?_)
        simp only [q0k.L11_eq, c1, c2, c3, w64, c4, g1, Bool.and_self, q06, e1, ha, Option.bind_some, Bool.not_true, q08]
        exact e2
  have key := q60 (G := fun k k1 x => q0k.L5 k k1 b d ([], []) (b.1, []) d.1 (d.1.length : Int) x) (n := d.1.length) (fun i => qaz b.2 (d.1.getD i bz)) (stop := (b, false)) (fin := if q5r (doB b d) then (doB b d, true) else (b, false))
    (Al2.succ ((two b.2 0 [] rfl rfl).diag.fst.mono fun k k1 e => by
      simp only [q0k.L5_eq, at_end (Nat.lt_irrefl _), q08]
      exact e)) fun i hi r hr => by
      obtain ⟨c1, c2, c3, c4⟩ := q6t hi hS
      refine Al2.succ (hr.mono fun k k1 e2 => ?_)
      simp only [q0k.L5_eq, c1, c2, c3, w64, c4, Bool.and_self, q06, qap _ _ _ hE, qi7, e2, Option.bind_some, q69 k1 b (by omega) (by omega)]
      cases qaz b.2 (d.1.getD i bz) <;> simp [q06, q08]
  rw [q92 d.1 bz fun s => qaz b.2 s] at key
  refine (e0.and key.diag).mono fun k ⟨⟨e1, e2⟩, e3⟩ => ?_
  have m1 : decide ((([] : List Aff).length + b.1.length) * 72 ≤ q1m) = true := decide_eq_true (by simp [q1m]; omega)
  simp only [q0k.f_eq, e1, e2, h1, h2, Option.bind_some, Bool.not_true, q08, m1, q06, List.nil_append, e3, q5e, Bool.and_self, if_true]
  cases d.1.all _ <;> cases q5r (doB b d) <;> simp
end Go.Proofs.YtjfkeknnjjlepaaGreatDoor.Rf
end

section
/- Bytes as lists, and a text cut at each of a byte. Plain. -/
namespace Go.Proofs.YtjfkeknnjjlepaaGreatDoor.Rf
open Go Go.RowKit
set_option linter.unusedVariables false
set_option linter.unusedSimpArgs false
abbrev By := List UInt8
def mkB (l : By) : ByteArray := ⟨l.toArray⟩
theorem q52 (l : By) : bl (mkB l) = l := by simp [bl, mkB]
theorem q9l (s : ByteArray) : mkB (bl s) = s := q53 (q52 _)
theorem q59 (a b : ByteArray) : bl (a ++ b) = bl a ++ bl b := by simp [bl, ByteArray.data_append]
theorem qb2 (s : ByteArray) (a b : Nat) : bl (s.extract a b) = ((bl s).drop a).take (b - a) := Lib.extract_data s a b
theorem qk2 (s : ByteArray) (a : Nat) : bl (s.extract 0 a) = (bl s).take a := by rw [qb2]; simp
theorem q7p (s : ByteArray) (a : Nat) : bl (s.extract a s.size) = (bl s).drop a := Lib.extract_to_end s a
theorem q4y (s : ByteArray) : s.size = (bl s).length := (q51 s).symm
theorem size_mk (l : By) : (mkB l).size = l.length := by rw [q4y, q52]
def preB (p : By) : List By → List By
  | [] => [p]
  | q :: qs => (p ++ q) :: qs
def qe0 (c : UInt8) : By → List By
  | [] => [[]]
  | b :: l => if b = c then [] :: qe0 c l else preB [b] (qe0 c l)
theorem q6i (c b : UInt8) (l : By) : qe0 c (b :: l) = if b = c then [] :: qe0 c l else preB [b] (qe0 c l) := rfl
theorem qfu (c : UInt8) : ∀ l, qe0 c l ≠ []
  | [] => by simp [qe0]
  | b :: l => by
    rw [q6i]
    split
    · simp
    · cases qe0 c l <;> simp [preB]
theorem q93 (c : UInt8) : ∀ (p : By), c ∉ p → qe0 c p = [p]
  | [], _ => rfl
  | b :: p, h => by
    have hb : b ≠ c := fun e => h (by simp [e])
    rw [q6i, if_neg hb, q93 c p (fun hp => h (by simp [hp]))]
    rfl
theorem q9m (c : UInt8) (r : By) : ∀ (p : By), c ∉ p → qe0 c (p ++ c :: r) = p :: qe0 c r
  | [], _ => by simp [qe0]
  | b :: p, h => by
    have hb : b ≠ c := fun e => h (by simp [e])
    rw [List.cons_append, q6i, if_neg hb, q9m c r p (fun hp => h (by simp [hp]))]
    rfl
theorem qn4 (c : UInt8) : ∀ l, (qe0 c l).length ≤ l.length + 1
  | [] => by simp [qe0]
  | b :: l => by
    have ih := qn4 c l
    rw [q6i]
    split
    · simp; omega
    · cases hq : qe0 c l with
      | nil => simp [preB]
      | cons q qs => rw [hq] at ih; simp [preB] at ih ⊢; omega
theorem qaq (c : UInt8) : ∀ l, ∀ p ∈ qe0 c l, p.length ≤ l.length
  | [], p, hp => by simp [qe0] at hp; simp [hp]
  | b :: l, p, hp => by
    rw [q6i] at hp
    split at hp
    · rcases List.mem_cons.1 hp with rfl | hp
      · simp
      · have := qaq c l p hp
        simp; omega
    · cases hq : qe0 c l with
      | nil => exact absurd hq (qfu c l)
      | cons q qs =>
        rw [hq] at hp
        rcases List.mem_cons.1 hp with rfl | hp
        · have := qaq c l q (by rw [hq]; exact List.mem_cons_self)
          simp; omega
        · have := qaq c l p (by rw [hq]; exact List.mem_cons_of_mem _ hp)
          simp; omega
theorem qdb (c : UInt8) : ∀ (ls : List By), (∀ p ∈ ls, c ∉ p) → qe0 c ((ls.map (· ++ [c])).flatten) = ls ++ [[]]
  | [], _ => rfl
  | p :: ls, h => by
    have e : (((p :: ls).map (· ++ [c])).flatten) = p ++ c :: ((ls.map (· ++ [c])).flatten) := by simp
    rw [e, q9m c _ p (h p List.mem_cons_self), qdb c ls (fun q hq => h q (List.mem_cons_of_mem _ hq))]
    rfl
theorem qh2 (c : UInt8) : ∀ l : By, Lib.splitK [c] 0 (Lib.count l [c]) l = qe0 c l
  | [] => by rw [Lib.count_miss (by simp [Lib.index])]; rfl
  | b :: l => by
    have ih := qh2 c l
    by_cases h : b = c
    · subst h
      have hix : Lib.index (b :: l) [b] = 0 := by rw [Lib.index]; simp [List.isPrefixOf]
      rw [Lib.count_cons_eq, Nat.add_comm, Lib.splitK, if_neg (by rw [hix]; decide), hix, q6i, if_pos rfl, ← ih]
      simp
    · have hp : ([c] : List UInt8).isPrefixOf (b :: l) = false := by simp [List.isPrefixOf, Ne.symm h]
      have hix : Lib.index (b :: l) [c] = if Lib.index l [c] == -1 then -1 else Lib.index l [c] + 1 := by rw [Lib.index, hp]; simp
      rw [Lib.count_cons_ne b c l h, q6i, if_neg h, ← ih]
      cases hk : Lib.count l [c] with
      | zero => rfl
      | succ k =>
        have hne : Lib.index l [c] ≠ -1 := fun e => by rw [Lib.count_miss e] at hk; cases hk
        have hge := Lib.index_ge l [c]
        obtain ⟨j, hj⟩ : ∃ j : Nat, Lib.index l [c] = j := ⟨(Lib.index l [c]).toNat, by omega⟩
        have h1 : ¬ (Lib.index l [c] == -1) = true := fun e => hne (beq_iff_eq.1 e)
        rw [Lib.splitK, Lib.splitK, hix, if_neg h1, if_neg h1, hj, if_neg (by intro e; have := beq_iff_eq.1 e; omega)]
        have t1 : ((j : Int) + 1).toNat = j + 1 := by omega
        have t2 : ((j : Int)).toNat = j := by omega
        rw [t1, t2]
        simp [preB]
def q5g (c : UInt8) (s : ByteArray) : List ByteArray := (qe0 c (bl s)).map mkB
theorem qvg (c : UInt8) (s : ByteArray) : Lib.splitB (⟨#[c]⟩ : ByteArray) 0 (Lib.countB s (⟨#[c]⟩ : ByteArray)) s = q5g c s := by
  have h := Lib.splitB_data (⟨#[c]⟩ : ByteArray) 0 (Lib.countB s (⟨#[c]⟩ : ByteArray)) s
  have e : Lib.countB s (⟨#[c]⟩ : ByteArray) = Lib.count (bl s) [c] := rfl
  rw [e] at h ⊢
  have h2 : (Lib.splitB (⟨#[c]⟩ : ByteArray) 0 (Lib.count (bl s) [c]) s).map bl = qe0 c (bl s) := h.trans (qh2 c (bl s))
  unfold q5g
  rw [← h2, List.map_map]
  have : (mkB ∘ bl) = (id : ByteArray → ByteArray) := funext q9l
  rw [this, List.map_id]
theorem q5u (c : UInt8) (s p : ByteArray) (h : p ∈ q5g c s) : p.size ≤ s.size := by
  unfold q5g at h
  obtain ⟨q, hq, rfl⟩ := List.mem_map.1 h
  have := qaq c (bl s) q hq
  rw [size_mk, q4y]
  exact this
theorem q6p (c : UInt8) (s : ByteArray) : (q5g c s).length ≤ s.size + 1 := by
  unfold q5g
  rw [List.length_map, q4y]
  exact qn4 c (bl s)
theorem qeo (c : UInt8) (s : ByteArray) : 0 < (q5g c s).length := by
  unfold q5g
  rw [List.length_map]
  exact List.length_pos_iff.2 (qfu c _)
theorem index_one (c : UInt8) (r : By) : ∀ p : By, c ∉ p → Lib.index (p ++ c :: r) [c] = (p.length : Int)
  | [], _ => by rw [List.nil_append, Lib.index]; simp [List.isPrefixOf]
  | b :: p, h => by
    have hb : b ≠ c := fun e => h (by simp [e])
    have hp : ([c] : List UInt8).isPrefixOf (b :: (p ++ c :: r)) = false := by simp [List.isPrefixOf, Ne.symm hb]
    have ih := index_one c r p (fun hq => h (by simp [hq]))
    rw [List.cons_append, Lib.index, hp]
    simp only [Bool.false_eq_true, if_false]
    rw [ih, if_neg (by intro e; have := beq_iff_eq.1 e; omega)]
    simp
theorem qh3 (c : UInt8) : ∀ p : By, c ∉ p → Lib.index p [c] = -1
  | [], _ => by simp [Lib.index]
  | b :: p, h => by
    have hb : b ≠ c := fun e => h (by simp [e])
    have hp : ([c] : List UInt8).isPrefixOf (b :: p) = false := by simp [List.isPrefixOf, Ne.symm hb]
    have ih := qh3 c p (fun hq => h (by simp [hq]))
    rw [Lib.index, hp]
    simp [ih]
theorem qvh (c : UInt8) (p r : By) (h : c ∉ p) : Lib.cut (p ++ c :: r) [c] = (p, r, true) := by
  unfold Lib.cut
  rw [index_one c r p h, if_pos (by omega), Int.toNat_natCast]
  simp
theorem qql (c : UInt8) (p : By) (h : c ∉ p) : Lib.cut p [c] = (p, [], false) := by
  unfold Lib.cut
  rw [qh3 c p h, if_neg (by omega)]
theorem qob (l s : By) : (Lib.cut l s).1.length ≤ l.length ∧ (Lib.cut l s).2.1.length ≤ l.length := by
  unfold Lib.cut
  split
  · simp
    omega
  · simp
end Go.Proofs.YtjfkeknnjjlepaaGreatDoor.Rf
end

section
/- Lines of affixes, entries, deltas: written by both sides. -/
namespace Go.Proofs.YtjfkeknnjjlepaaGreatDoor.Rf
open Go Go.RowKit
set_option linter.unusedVariables false
set_option linter.unusedSimpArgs false
def qcd (b : Bool) : By := if b then [102, 114, 111, 110, 116] else [101, 110, 100]
def q7g (a : Aff) : By := qcd a.2.1 ++ 32 :: (bl a.1 ++ 32 :: (bl a.2.2.1 ++ 32 :: (bl a.2.2.2.1 ++ 32 :: bl a.2.2.2.2)))
def q6y (e : En) : By := if bl e.2 = [] then bl e.1 else bl e.1 ++ 47 :: bl e.2
def nlB (ls : List By) : By := (ls.map (· ++ [10])).flatten
def ql2 : By := [97, 102, 102, 105, 120, 101, 115]
def q5o (d : Delta) : List By := (if d.2.2.1 then [ql2] else []) ++ (d.2.2.2.map q7g ++ (d.1.map (fun s => 45 :: bl s) ++ d.2.1.map fun e => 43 :: q6y e))
def qbw (d : Delta) : ByteArray := mkB (nlB (q5o d))
def qwg (d : Delta) : ByteArray := if q5h d then qbw d else bz
theorem qfv (a b : List By) : nlB (a ++ b) = nlB a ++ nlB b := by simp [nlB]
theorem q58 (a : By) (b : List By) : nlB (a :: b) = a ++ 10 :: nlB b := by simp [nlB]
theorem qia : nlB [] = [] := rfl
def tA (a : Aff) : Prop := a.1.size ≤ 1000 ∧ a.2.2.1.size ≤ 1000 ∧ a.2.2.2.1.size ≤ 1000 ∧ a.2.2.2.2.size ≤ 1000
def tE (e : En) : Prop := e.1.size ≤ 1000 ∧ e.2.size ≤ 1000
def tD (d : Delta) : Prop := (d.1.length ≤ 1000 ∧ ∀ s ∈ d.1, s.size ≤ 1000) ∧ (d.2.1.length ≤ 1000 ∧ ∀ e ∈ d.2.1, tE e) ∧ d.2.2.2.length ≤ 1000 ∧ ∀ a ∈ d.2.2.2, tA a
theorem qfw (b : Bool) : (qcd b).length ≤ 5 := by cases b <;> simp [qcd]
theorem q9n {a : Aff} (h : tA a) : (q7g a).length ≤ 4100 := by
  have := qfw a.2.1
  obtain ⟨h1, h2, h3, h4⟩ := h
  rw [q4y] at h1 h2 h3 h4
  simp only [q7g, List.length_append, List.length_cons]
  omega
theorem qar {e : En} (h : tE e) : (q6y e).length ≤ 2100 := by
  obtain ⟨h1, h2⟩ := h
  rw [q4y] at h1 h2
  unfold q6y
  split
  · omega
  · simp only [List.length_append, List.length_cons]; omega
theorem qlo {ls : List By} {n : Nat} (h : ∀ p ∈ ls, p.length ≤ n) : (nlB ls).length ≤ ls.length * (n + 1) := by
  induction ls with
  | nil => simp [nlB]
  | cons p ls ih =>
    have h1 := h p List.mem_cons_self
    have h2 := ih fun q hq => h q (List.mem_cons_of_mem _ hq)
    rw [q58, List.length_append, List.length_cons, List.length_cons, Nat.succ_mul]
    omega
theorem q4x (c : UInt8) : (⟨#[c]⟩ : ByteArray).size = 1 := rfl
theorem q6s (c : UInt8) : bl (⟨#[c]⟩ : ByteArray) = [c] := rfl
theorem qqm (s : ByteArray) (c : UInt8) : s ++ (⟨#[c]⟩ : ByteArray) = mkB (bl s ++ [c]) := q53 (by rw [q59, q52, q6s])
theorem qt9 (k : Nat) (x a b c d : ByteArray) (h : x.size + a.size + b.size + c.size + d.size ≤ 100000) : strings_Join.f k [x, a, b, c, d] (⟨#[32]⟩ : ByteArray) = some (mkB (bl x ++ 32 :: (bl a ++ 32 :: (bl b ++ 32 :: (bl c ++ 32 :: bl d))))) := by
  have e : Lib.join ([x, a, b, c, d].map (fun y => y.data.toList)) (⟨#[32]⟩ : ByteArray).data.toList = bl x ++ 32 :: (bl a ++ 32 :: (bl b ++ 32 :: (bl c ++ 32 :: bl d))) := by
    rw [List.map_cons, Lib.join_cons]
    simp [Lib.joinTail, bl]
  unfold strings_Join.f strings_Join.F
  simp only [e]
  rw [if_pos]
  · rfl
  · refine ⟨by simp, ?_⟩
    simp only [List.length_append, List.length_cons, q51]
    omega
theorem qe1 (a : Aff) (h : tA a) : Al fun k => q1b.f k a = some (mkB (q7g a ++ [10])) := by
  have j : ∀ s : ByteArray, bl s = qcd a.2.1 → Al fun k => q1b.J4 k a s = some (mkB (q7g a ++ [10])) := fun s hs => by
    have hl := qfw a.2.1
    have hz : s.size ≤ 5 := by rw [q4y, hs]; exact hl
    obtain ⟨h1, h2, h3, h4⟩ := h
    refine Al.succ (Al.now fun k => ?_)
    have e := q9n (a := a) ⟨h1, h2, h3, h4⟩
    rw [q1b.J4_eq, qt9 _ _ _ _ _ _ (by omega), Option.bind_some, hs]
    show ifb (q5x ((mkB (q7g a)).size + 1)) (some (mkB (q7g a) ++ (⟨#[10]⟩ : ByteArray))) none = _
    rw [q4h (by rw [size_mk]; omega), q06, qqm, q52]
  cases hf : a.2.1
  · have := j (⟨#[101, 110, 100]⟩ : ByteArray) (by rw [hf]; rfl)
    exact this.mono fun k e => by rw [q1b.f_eq, hf, q08]; exact e
  · have := j (⟨#[102, 114, 111, 110, 116]⟩ : ByteArray) (by rw [hf]; rfl)
    exact this.mono fun k e => by rw [q1b.f_eq, hf, q06]; exact e
theorem q94 (s : ByteArray) : (s.toList == bz.toList) = decide (bl s = []) := by
  rw [q5y, Bool.eq_iff_iff, decide_eq_true_eq, decide_eq_true_eq]
  exact ⟨fun h => by rw [h]; rfl, fun h => q53 (by rw [h]; rfl)⟩
theorem qe2 (k : Nat) (e : En) (h : tE e) : q3a.f k e = some (mkB (q6y e ++ [10])) := by
  obtain ⟨h1, h2⟩ := h
  rw [q3a.f_eq, q94]
  unfold q6y
  by_cases hn : bl e.2 = []
  · rw [decide_eq_true hn, q06, if_pos hn, q4h (by rw [q4x]; omega), q06, qqm]
  · have z1 : (e.1 ++ (⟨#[47]⟩ : ByteArray)).size = e.1.size + 1 := ByteArray.size_append
    have z2 : ((e.1 ++ (⟨#[47]⟩ : ByteArray)) ++ e.2).size = e.1.size + 1 + e.2.size := by rw [ByteArray.size_append, z1]
    rw [decide_eq_false hn, q08, if_neg hn, q4h (by rw [q4x]; omega), q06, q4h (by rw [z1]; omega), q06, q4h (by rw [z2, q4x]; omega), q06, qqm]
    congr 2
    rw [q59, q59, q6s]
    simp
theorem q9v (d : Delta) (hs : smD d) (h : tD d) : Al fun k => q0d.f k d = some (qwg d) := by
  have e0 := q66 d hs
  cases h1 : q5h d with
  | false => exact e0.mono fun k e => by rw [q0d.f_eq, e, h1, Option.bind_some, Bool.not_false, q06, qwg, h1]; rfl
  | true =>
  obtain ⟨⟨n1, s1⟩, ⟨n2, s2⟩, n3, s3⟩ := h
  have L17 : ∀ (t : List En) (i : Nat) (x : ByteArray), d.2.1.drop i = t → x.size + 5000 * t.length ≤ 20000000 → Al2 fun k k1 => q0d.L17 k k1 x d.2.1 (d.2.1.length : Int) (i : Int) = some (mkB (bl x ++ nlB (t.map fun e => 43 :: q6y e))) := by
    intro t
    induction t with
    | nil =>
      intro i x hd hx
      refine Al2.succ (Al2.now fun k k1 => ?_)
      rw [q0d.L17_eq, at_end (drop_nil hd), q08, List.map_nil, qia, List.append_nil, q9l]
    | cons e t ih =>
      intro i x hd hx
      rw [List.length_cons] at hx
      obtain ⟨hi, g1, g2⟩ := q45 zE hd
      obtain ⟨c1, c2, c3, c4⟩ := q6t hi (by omega)
      have he : tE e := s2 e (List.mem_of_mem_drop (show e ∈ d.2.1.drop i by rw [hd]; simp))
      have hl := qar he
      have z1 : (mkB (q6y e ++ [10])).size = (q6y e).length + 1 := by rw [size_mk]; simp
      have z2 : ((⟨#[43]⟩ : ByteArray) ++ mkB (q6y e ++ [10])).size = 1 + ((q6y e).length + 1) := by rw [ByteArray.size_append, z1]; rfl
      refine Al2.succ ((ih (i + 1) (x ++ ((⟨#[43]⟩ : ByteArray) ++ mkB (q6y e ++ [10]))) g2 (by rw [ByteArray.size_append, z2]; omega)).mono fun k k1 e1 => ?_)
      simp only [q0d.L17_eq, c1, c2, c3, Bool.and_self, q06, g1, qe2 _ e he, Option.bind_some, q4h (show (⟨#[43]⟩ : ByteArray).size + (mkB (q6y e ++ [10])).size ≤ 9223372036854775807 by rw [z1, q4x]; omega),
        q4h (show x.size + ((⟨#[43]⟩ : ByteArray) ++ mkB (q6y e ++ [10])).size ≤ 9223372036854775807 by rw [z2]; omega), w64, c4, e1]
      congr 2
      rw [q59, q59, q6s, q52, List.map_cons, q58]
      simp
  have L12 : ∀ (t : List ByteArray) (i : Nat) (x : ByteArray), d.1.drop i = t → x.size + 5000 * t.length ≤ 15000000 → Al2 fun k k1 => q0d.L12 k k1 d x d.1 (d.1.length : Int) (i : Int) = some (mkB (bl x ++ nlB (t.map (fun s => 45 :: bl s) ++ d.2.1.map fun e => 43 :: q6y e))) := by
    intro t
    induction t with
    | nil =>
      intro i x hd hx
      rw [List.length_nil] at hx
      refine Al2.succ ((L17 d.2.1 0 x rfl (by omega)).diag.fst.mono fun k k1 e => ?_)
      rw [q0d.L12_eq, at_end (drop_nil hd), q08]
      exact e
    | cons s t ih =>
      intro i x hd hx
      rw [List.length_cons] at hx
      obtain ⟨hi, g1, g2⟩ := q45 bz hd
      obtain ⟨c1, c2, c3, c4⟩ := q6t hi (by omega)
      have he : s.size ≤ 1000 := s1 s (List.mem_of_mem_drop (show s ∈ d.1.drop i by rw [hd]; simp))
      have z1 : ((⟨#[45]⟩ : ByteArray) ++ s).size = 1 + s.size := ByteArray.size_append
      have z2 : (((⟨#[45]⟩ : ByteArray) ++ s) ++ (⟨#[10]⟩ : ByteArray)).size = 1 + s.size + 1 := by rw [ByteArray.size_append, z1]; rfl
      refine Al2.succ ((ih (i + 1) (x ++ (((⟨#[45]⟩ : ByteArray) ++ s) ++ (⟨#[10]⟩ : ByteArray))) g2 (by rw [ByteArray.size_append, z2]; omega)).mono fun k k1 e1 => ?_)
      simp only [q0d.L12_eq, c1, c2, c3, Bool.and_self, q06, g1, q4h (show (⟨#[45]⟩ : ByteArray).size + s.size ≤ 9223372036854775807 by rw [q4x]; omega),
        q4h (show ((⟨#[45]⟩ : ByteArray) ++ s).size + (⟨#[10]⟩ : ByteArray).size ≤ 9223372036854775807 by rw [z1, q4x]; omega),
        q4h (show x.size + (((⟨#[45]⟩ : ByteArray) ++ s) ++ (⟨#[10]⟩ : ByteArray)).size ≤ 9223372036854775807 by rw [z2]; omega), w64, c4, e1]
      congr 2
      rw [q59, q59, q59, q6s, q6s]
      simp [q58]
  have L7 : ∀ (t : List Aff) (i : Nat) (x : ByteArray), d.2.2.2.drop i = t → x.size + 5000 * t.length ≤ 10000000 → Al2 fun k k1 => q0d.L7 k k1 d x d.2.2.2 (d.2.2.2.length : Int) (i : Int) = some (mkB (bl x ++ nlB (t.map q7g ++ (d.1.map (fun s => 45 :: bl s) ++ d.2.1.map fun e => 43 :: q6y e)))) := by
    intro t
    induction t with
    | nil =>
      intro i x hd hx
      rw [List.length_nil] at hx
      refine Al2.succ ((L12 d.1 0 x rfl (by omega)).diag.fst.mono fun k k1 e => ?_)
      rw [q0d.L7_eq, at_end (drop_nil hd), q08]
      exact e
    | cons a t ih =>
      intro i x hd hx
      rw [List.length_cons] at hx
      obtain ⟨hi, g1, g2⟩ := q45 zA hd
      obtain ⟨c1, c2, c3, c4⟩ := q6t hi (by omega)
      have he : tA a := s3 a (List.mem_of_mem_drop (show a ∈ d.2.2.2.drop i by rw [hd]; simp))
      have hl := q9n he
      have z1 : (mkB (q7g a ++ [10])).size = (q7g a).length + 1 := by rw [size_mk]; simp
      refine Al2.succ (((qe1 a he).snd.and (ih (i + 1) (x ++ mkB (q7g a ++ [10])) g2 (by rw [ByteArray.size_append, z1]; omega))).mono fun k k1 ⟨e0, e1⟩ => ?_)
      simp only [q0d.L7_eq, c1, c2, c3, Bool.and_self, q06, g1, e0, Option.bind_some, q4h (show x.size + (mkB (q7g a ++ [10])).size ≤ 9223372036854775807 by rw [z1]; omega), w64, c4, e1]
      congr 2
      rw [q59, q52]
      simp [q58]
  have J6 : ∀ x : ByteArray, bl x = nlB (if d.2.2.1 then [ql2] else []) → Al fun k => q0d.J6 k d x = some (qbw d) := fun x hx => by
    have hz : x.size ≤ 10 := by
      rw [q4y, hx]
      cases d.2.2.1 <;> simp [nlB, ql2]
    refine Al.succ ((L7 d.2.2.2 0 x rfl (by omega)).diag.mono fun k e => ?_)
    rw [q0d.J6_eq]
    refine (e.trans ?_)
    rw [qbw, q5o, qfv _ (List.map q7g d.2.2.2 ++ _), hx]
  cases hf : d.2.2.1 with
  | false => exact (e0.and (J6 bz (by rw [hf]; rfl))).mono fun k ⟨e, e1⟩ => by simp only [q0d.f_eq, e, h1, Option.bind_some, Bool.not_true, q08, hf, e1, qwg, if_true]
  | true => exact (e0.and (J6 (⟨#[97, 102, 102, 105, 120, 101, 115, 10]⟩ : ByteArray) (by rw [hf]; rfl))).mono fun k ⟨e, e1⟩ => by simp only [q0d.f_eq, e, h1, Option.bind_some, Bool.not_true, q08, q06, hf, e1, qwg, if_true]
end Go.Proofs.YtjfkeknnjjlepaaGreatDoor.Rf
end

section
/- A delta's text read by both sides; what is written is read again. -/
namespace Go.Proofs.YtjfkeknnjjlepaaGreatDoor.Rf
open Go Go.RowKit
set_option linter.unusedVariables false
set_option linter.unusedSimpArgs false
def d0 : Delta := ([], [], false, [])
def qdc (s : ByteArray) : ByteArray := s.extract 1 s.size
def qk3 (x : ByteArray) : En := (mkB (Lib.cut (bl x) [47]).1, mkB (Lib.cut (bl x) [47]).2.1)
def qul (ws : List ByteArray) : Aff := (ws.getD 1 bz, decide (bl (ws.getD 0 bz) = [102, 114, 111, 110, 116]), ws.getD 2 bz, ws.getD 3 bz, ws.getD 4 bz)
def qvi (x : ByteArray) : Aff := qul (q5g 32 x ++ [bz, bz, bz, bz])
def hd1 (c : UInt8) (x : ByteArray) : Bool := decide ((bl x).head? = some c)
def q95 (st : Delta) (x : ByteArray) : Delta :=
  if bl x = ql2 then (st.1, st.2.1, true, st.2.2.2) else if hd1 45 x then (st.1 ++ [qdc x], st.2) else if hd1 43 x then (st.1, st.2.1 ++ [qk3 (qdc x)], st.2.2) else (st.1, st.2.1, st.2.2.1, st.2.2.2 ++ [qvi x])
def qta (x : ByteArray) : En × Bool :=
  if 2 < (q5g 47 x).length then (zE, false) else if (q5g 47 x).length = 2 then (if bl ((q5g 47 x).getD 1 bz) = [] then (zE, false) else (((q5g 47 x).getD 0 bz, (q5g 47 x).getD 1 bz), qau ((q5g 47 x).getD 0 bz, (q5g 47 x).getD 1 bz)))
  else (((q5g 47 x).getD 0 bz, bz), qau ((q5g 47 x).getD 0 bz, bz))
def qaw (st : Delta) (x : ByteArray) : Delta × Bool :=
  if bl x = ql2 then ((st.1, st.2.1, true, st.2.2.2), true) else if (q5g 32 x).length = 5 then ((st.1, st.2.1, st.2.2.1, st.2.2.2 ++ [qul (q5g 32 x)]), true)
  else if hd1 45 x then ((st.1 ++ [qdc x], st.2), true) else if hd1 43 x then ((st.1, st.2.1 ++ [(qta (qdc x)).1], st.2.2), (qta (qdc x)).2) else (st, false)
def qe3 : List ByteArray → Delta → Option Delta
  | [], st => some st
  | x :: xs, st => if (qaw st x).2 then qe3 xs (qaw st x).1 else none
structure Bd (N i : Nat) (st : Delta) : Prop where
  g1 : st.1.length ≤ i
  g2 : ∀ s ∈ st.1, s.size ≤ N
  c1 : st.2.1.length ≤ i
  c2 : ∀ e ∈ st.2.1, e.1.size ≤ N ∧ e.2.size ≤ N
  l1 : st.2.2.2.length ≤ i
  l2 : ∀ x ∈ st.2.2.2, x.1.size ≤ N ∧ x.2.2.1.size ≤ N ∧ x.2.2.2.1.size ≤ N ∧ x.2.2.2.2.size ≤ N
theorem Bd.zero (N : Nat) : Bd N 0 d0 := ⟨Nat.le_refl _, fun s h => absurd h (by simp [d0]), Nat.le_refl _, fun s h => absurd h (by simp [d0]), Nat.le_refl _, fun s h => absurd h (by simp [d0])⟩
theorem Bd.sm {N i : Nat} {st : Delta} (h : Bd N i st) (hN : N ≤ 100000000) (hi : i ≤ 100000000) : smD st := by
  have a1 := h.g1
  have a2 := h.c1
  have a3 := h.l1
  refine ⟨⟨by omega, fun s hs => ?_⟩, ⟨by omega, fun e he => ?_⟩, by omega, fun x hx => ?_⟩
  · have := h.g2 s hs; unfold Sm; omega
  · have := h.c2 e he; unfold smE Sm; omega
  · have := h.l2 x hx; unfold smA Sm; omega
theorem q7z (s : ByteArray) : (qdc s).size ≤ s.size := by
  unfold qdc
  rw [ByteArray.size_extract]
  omega
theorem q6e {ws : List ByteArray} {N : Nat} (h : ∀ p ∈ ws, p.size ≤ N) (i : Nat) : (ws.getD i bz).size ≤ N := by
  rw [List.getD_eq_getElem?_getD]
  cases hq : ws[i]? with
  | none => exact Nat.zero_le _
  | some p => exact h p (List.mem_of_getElem? hq)
theorem qoc (x : ByteArray) : (qk3 x).1.size ≤ x.size ∧ (qk3 x).2.size ≤ x.size := by
  have h := qob (bl x) [47]
  rw [q4y x]
  exact ⟨by rw [qk3, size_mk]; exact h.1, by rw [qk3, size_mk]; exact h.2⟩
theorem Bd.g {N i : Nat} {st : Delta} (h : Bd N i st) {s : ByteArray} (hs : s.size ≤ N) : Bd N (i + 1) (st.1 ++ [s], st.2) := by
  refine ⟨by simp; exact h.g1, fun t ht => ?_, Nat.le_succ_of_le h.c1, h.c2, Nat.le_succ_of_le h.l1, h.l2⟩
  rcases List.mem_append.1 ht with ht | ht
  · exact h.g2 t ht
  · rw [List.mem_singleton.1 ht]; exact hs
theorem Bd.c {N i : Nat} {st : Delta} (h : Bd N i st) {e : En} (hs : e.1.size ≤ N ∧ e.2.size ≤ N) : Bd N (i + 1) (st.1, st.2.1 ++ [e], st.2.2) := by
  refine ⟨Nat.le_succ_of_le h.g1, h.g2, by simp; exact h.c1, fun t ht => ?_, Nat.le_succ_of_le h.l1, h.l2⟩
  rcases List.mem_append.1 ht with ht | ht
  · exact h.c2 t ht
  · rw [List.mem_singleton.1 ht]; exact hs
theorem Bd.l {N i : Nat} {st : Delta} (h : Bd N i st) {e : Aff} (hs : e.1.size ≤ N ∧ e.2.2.1.size ≤ N ∧ e.2.2.2.1.size ≤ N ∧ e.2.2.2.2.size ≤ N) : Bd N (i + 1) (st.1, st.2.1, st.2.2.1, st.2.2.2 ++ [e]) := by
  refine ⟨Nat.le_succ_of_le h.g1, h.g2, Nat.le_succ_of_le h.c1, h.c2, by simp; exact h.l1, fun t ht => ?_⟩
  rcases List.mem_append.1 ht with ht | ht
  · exact h.l2 t ht
  · rw [List.mem_singleton.1 ht]; exact hs
theorem Bd.a {N i : Nat} {st : Delta} (h : Bd N i st) (b : Bool) : Bd N (i + 1) (st.1, st.2.1, b, st.2.2.2) :=
  ⟨Nat.le_succ_of_le h.g1, h.g2, Nat.le_succ_of_le h.c1, h.c2, Nat.le_succ_of_le h.l1, h.l2⟩
theorem qlp {N : Nat} (x : ByteArray) (hx : x.size ≤ N) : ∀ p ∈ q5g 32 x ++ [bz, bz, bz, bz], p.size ≤ N := by
  intro p hp
  rcases List.mem_append.1 hp with hp | hp
  · exact Nat.le_trans (q5u 32 x p hp) hx
  · simp at hp
    subst hp
    exact Nat.zero_le _
theorem qk4 {ws : List ByteArray} {N : Nat} (h : ∀ p ∈ ws, p.size ≤ N) : (qul ws).1.size ≤ N ∧ (qul ws).2.2.1.size ≤ N ∧ (qul ws).2.2.2.1.size ≤ N ∧ (qul ws).2.2.2.2.size ≤ N := ⟨q6e h _, q6e h _, q6e h _, q6e h _⟩
theorem qtb {N i : Nat} {st : Delta} (h : Bd N i st) {x : ByteArray} (hx : x.size ≤ N) : Bd N (i + 1) (q95 st x) := by
  unfold q95
  split
  · exact h.a true
  · split
    · exact h.g (Nat.le_trans (q7z x) hx)
    · split
      · have h1 := qoc (qdc x)
        have h2 := q7z x
        exact h.c ⟨by omega, by omega⟩
      · exact h.l (qk4 (qlp x hx))
theorem qep (k : Nat) (c : UInt8) (s : ByteArray) (hs : s.size < 4294967281) : strings_Split.f k s (⟨#[c]⟩ : ByteArray) = some (q5g c s) := by
  unfold strings_Split.f strings_Split.F
  simp only
  rw [if_pos ⟨hs, by show 1 ≤ 1; omega⟩, qvg]
theorem qh4 (s : ByteArray) (hs : s.size ≤ 100000000) : Al fun k => q2j.f k s = some (q5g 10 s).dropLast := by
  have hl := q6p 10 s
  have hp := qeo 10 s
  have j : Al fun k => q2j.J2 k (q5g 10 s) = some (q5g 10 s).dropLast := by
    refine Al.succ (Al.now fun k => ?_)
    have w : w64 (((q5g 10 s).length : Int) - 1) = (((q5g 10 s).length - 1 : Nat) : Int) := by rw [w64, q6g (by omega) (by omega)]; omega
    simp only [q2j.J2_eq, w, decide_eq_true (show (0 : Int) ≤ 0 by omega), decide_eq_true (show (0 : Int) ≤ (((q5g 10 s).length - 1 : Nat) : Int) by omega), decide_eq_true (show (((q5g 10 s).length - 1 : Nat) : Int) ≤ ((q5g 10 s).length : Int) by omega), Bool.and_self, q06, Int.toNat_natCast, Int.toNat_zero, List.drop_zero, List.dropLast_eq_take]
  exact j.mono fun k e => by rw [q2j.f_eq, qep k 10 s (by omega), Option.bind_some, e]
theorem qk5 (s : ByteArray) : (s.toList == (⟨#[102, 114, 111, 110, 116]⟩ : ByteArray).toList) = decide (bl s = [102, 114, 111, 110, 116]) := by
  rw [q5y, Bool.eq_iff_iff, decide_eq_true_eq, decide_eq_true_eq]
  exact ⟨fun h => by rw [h]; rfl, fun h => q53 (by rw [h]; rfl)⟩
theorem qn5 (s : ByteArray) : (s.toList == (⟨#[97, 102, 102, 105, 120, 101, 115]⟩ : ByteArray).toList) = decide (bl s = ql2) := by
  rw [q5y, Bool.eq_iff_iff, decide_eq_true_eq, decide_eq_true_eq]
  exact ⟨fun h => by rw [h]; rfl, fun h => q53 (by rw [h]; rfl)⟩
theorem qk6 (k : Nat) (x : ByteArray) (h : x.size ≤ 100000000) : q3j.f k x = some (qvi x) := by
  have hl := q6p 32 x
  have hp := qeo 32 x
  rw [q3j.f_eq, qep k 32 x (by omega), Option.bind_some]
  have e4 : ([bz, bz, bz, bz] : List ByteArray).length = 4 := rfl
  have m1 : decide (((q5g 32 x).length + [bz, bz, bz, bz].length) * 16 ≤ q1m) = true := decide_eq_true (by rw [e4]; simp [q1m]; omega)
  have hlen : (q5g 32 x ++ [bz, bz, bz, bz]).length = (q5g 32 x).length + 4 := by rw [List.length_append, e4]
  rw [m1, q06, hlen]
  simp only [decide_eq_true (show (0 : Int) ≤ 0 by omega), decide_eq_true (show (0 : Int) ≤ 1 by omega), decide_eq_true (show (0 : Int) ≤ 2 by omega), decide_eq_true (show (0 : Int) ≤ 3 by omega), decide_eq_true (show (0 : Int) ≤ 4 by omega),
    decide_eq_true (show (0 : Int) < (((q5g 32 x).length + 4 : Nat) : Int) by omega), decide_eq_true (show (1 : Int) < (((q5g 32 x).length + 4 : Nat) : Int) by omega), decide_eq_true (show (2 : Int) < (((q5g 32 x).length + 4 : Nat) : Int) by omega),
    decide_eq_true (show (3 : Int) < (((q5g 32 x).length + 4 : Nat) : Int) by omega), decide_eq_true (show (4 : Int) < (((q5g 32 x).length + 4 : Nat) : Int) by omega), Bool.and_self, q06, qk5]
  rfl
theorem qk7 (k : Nat) (x : ByteArray) (h : x.size ≤ 100000000) : q3i.f k x = some (qk3 x) := by
  rw [q3i.f_eq]
  unfold strings_Cut.f strings_Cut.F
  simp only
  rw [if_pos (by omega), Option.bind_some]
  rfl
theorem qtc (s : ByteArray) (c : UInt8) : qiw s (⟨#[c]⟩ : ByteArray) = hd1 c s := by
  unfold qiw hd1
  rw [Bool.eq_iff_iff]
  simp only [Bool.and_eq_true, decide_eq_true_eq]
  have e1 : (⟨#[c]⟩ : ByteArray).size = 1 := rfl
  rw [e1]
  constructor
  · rintro ⟨h1, h2⟩
    have := congrArg bl h2
    rw [qk2, q6s] at this
    cases hb : bl s with
    | nil => rw [hb] at this; simp at this
    | cons b t => rw [hb] at this; simpa using this
  · intro h
    cases hb : bl s with
    | nil => rw [hb] at h; simp at h
    | cons b t =>
      rw [hb] at h
      have hb' : b = c := by simpa using h
      refine ⟨by rw [q4y, hb]; simp, q53 ?_⟩
      rw [qk2, hb, q6s, hb']
      rfl
def qow (st : Delta) (x : ByteArray) : Delta × Bool := if q5h st && decide (qbw st = x) then (st, true) else (d0, false)
theorem qod {d : Delta} (h : q5h d = true) : tD d := by
  have hl := qi9 h
  simp only [q5h, Bool.and_eq_true] at h
  obtain ⟨hw, he, ha, _⟩ := h
  refine ⟨⟨by omega, fun s hs => ?_⟩, ⟨by omega, fun e hm => ?_⟩, by omega, fun a hm => ?_⟩
  · simp only [qdy, Bool.and_eq_true, q5b] at hw
    obtain ⟨i, hi, rfl⟩ := List.mem_iff_getElem.1 hs
    have := (hw.1 i hi).1
    rw [List.getD_eq_getElem?_getD, List.getElem?_eq_getElem hi] at this
    simp only [q7u, q50, Bool.and_eq_true, decide_eq_true_eq, Option.getD_some] at this
    omega
  · simp only [qaa, Bool.and_eq_true, q5b] at he
    obtain ⟨i, hi, rfl⟩ := List.mem_iff_getElem.1 hm
    have := (he.1 i hi).1
    rw [List.getD_eq_getElem?_getD, List.getElem?_eq_getElem hi] at this
    simp only [qau, q7u, q50, Bool.and_eq_true, decide_eq_true_eq, Option.getD_some] at this
    unfold tE
    omega
  · simp only [q8y, Bool.and_eq_true, q5b] at ha
    obtain ⟨i, hi, rfl⟩ := List.mem_iff_getElem.1 hm
    have := (ha.1 i hi).1
    rw [List.getD_eq_getElem?_getD, List.getElem?_eq_getElem hi] at this
    simp only [qgx, qgg, q50, Bool.and_eq_true, decide_eq_true_eq, Option.getD_some] at this
    unfold tA
    omega
theorem qn6 (a x : ByteArray) : (a.toList == x.toList) = decide (a = x) := q5y a x
end Go.Proofs.YtjfkeknnjjlepaaGreatDoor.Rf
end

section
/- A delta read, both sides. -/
namespace Go.Proofs.YtjfkeknnjjlepaaGreatDoor.Rf
open Go Go.RowKit
set_option linter.unusedVariables false
set_option linter.unusedSimpArgs false
theorem qlq {c : UInt8} {x : ByteArray} (h : hd1 c x = true) : 0 < x.size := by
  unfold hd1 at h
  rw [decide_eq_true_eq] at h
  rw [q4y]
  cases hb : bl x with
  | nil => rw [hb] at h; simp at h
  | cons b t => simp
theorem q8d (x : ByteArray) (h : 0 < x.size) : (decide ((0 : Int) ≤ 1) && (decide ((1 : Int) ≤ (x.size : Int)) && decide ((x.size : Int) ≤ (x.size : Int)))) = true ∧ x.extract (1 : Int).toNat (x.size : Int).toNat = qdc x :=
  ⟨by rw [decide_eq_true (show (0 : Int) ≤ 1 by omega), decide_eq_true (show (1 : Int) ≤ (x.size : Int) by omega), decide_eq_true (Int.le_refl (x.size : Int))]; rfl, rfl⟩
theorem qe9 (x : ByteArray) (hx : x.size ≤ 50000000) : Al fun k => q1g.f k x = some (qow ((q5g 10 x).dropLast.foldl q95 d0) x) := by
  have hp : ∀ w ∈ (q5g 10 x).dropLast, w.size ≤ 50000000 := fun w hw => Nat.le_trans (q5u 10 x w (List.dropLast_subset _ hw)) hx
  have hn : (q5g 10 x).dropLast.length ≤ 50000000 := by
    have := q6p 10 x
    rw [List.length_dropLast]
    omega
  have hlo := qh4 x (by omega)
  generalize (q5g 10 x).dropLast = ws at hp hn hlo ⊢
  have key : ∀ (t : List ByteArray) (i : Nat) (st : Delta), ws.drop i = t → Bd 50000000 i st → i ≤ ws.length → Al2 fun k k1 => q1g.L3 k k1 x d0 st ws (ws.length : Int) (i : Int) = some (qow (t.foldl q95 st) x) := by
    intro t
    induction t with
    | nil =>
      intro i st hd hb hi
      have sm := hb.sm (by omega) (by omega)
      cases hok : q5h st with
      | false =>
        refine Al2.succ ((q66 st sm).fst.mono fun k k1 e => ?_)
        simp only [q1g.L3_eq, at_end (drop_nil hd), q08, e, hok, Option.bind_some, Bool.not_false, q06, List.foldl_nil, qow, Bool.false_and, Bool.false_eq_true, if_false]
        rfl
      | true =>
        refine Al2.succ (((q66 st sm).and (q9v st sm (qod hok))).fst.mono fun k k1 ⟨e, e2⟩ => ?_)
        simp only [q1g.L3_eq, at_end (drop_nil hd), q08, e, hok, Option.bind_some, Bool.not_true, e2, qwg, if_true, qn6, List.foldl_nil, qow, Bool.true_and]
        by_cases h : qbw st = x
        · simp [h, q08]
        · simp [h, q06, d0]
    | cons w t ih =>
      intro i st hd hb hi
      obtain ⟨hi', g1, g2⟩ := q45 bz hd
      obtain ⟨c1, c2, c3, c4⟩ := q6t hi' (by omega)
      have hw : w.size ≤ 50000000 := hp w (List.mem_of_mem_drop (show w ∈ ws.drop i by rw [hd]; simp))
      have ih' := ih (i + 1) (q95 st w) g2 (qtb hb hw) (by omega)
      have a1 := hb.g1
      have a2 := hb.c1
      have a3 := hb.l1
      refine Al2.succ (ih'.mono fun k k1 e => ?_)
      rw [List.foldl_cons]
      simp only [q1g.L3_eq, c1, c2, c3, Bool.and_self, q06, g1, qn5, q5p, qtc, Option.bind_some, w64, c4]
      unfold q95 at e ⊢
      by_cases h0 : bl w = ql2
      · simp only [if_pos h0] at e ⊢
        rw [decide_eq_true h0, q06]
        exact e
      simp only [if_neg h0] at e ⊢
      rw [decide_eq_false h0, q08]
      cases h1 : hd1 45 w with
      | true =>
        have hpz := qlq h1
        simp only [h1, if_true] at e ⊢
        rw [q06, (q8d w hpz).1, q06, (q8d w hpz).2, decide_eq_true (by simp [q1m]; omega), q06]
        exact e
      | false =>
      simp only [h1, Bool.false_eq_true, if_false] at e ⊢
      rw [q08]
      cases h2 : hd1 43 w with
      | true =>
        have hpz := qlq h2
        have hr := q7z w
        simp only [h2, if_true] at e ⊢
        rw [q06, (q8d w hpz).1, q06, (q8d w hpz).2, qk7 _ _ (by omega), Option.bind_some, decide_eq_true (by simp [q1m]; omega), q06]
        exact e
      | false =>
      simp only [h2, Bool.false_eq_true, if_false] at e ⊢
      rw [q08, qk6 _ _ (by omega), Option.bind_some, decide_eq_true (by simp [q1m]; omega), q06]
      exact e
  refine (hlo.and (key ws 0 d0 rfl (Bd.zero _) (Nat.zero_le _)).diag).mono fun k ⟨e1, e2⟩ => ?_
  rw [q1g.f_eq, e1, Option.bind_some]
  exact e2
def qtd (o : Option Delta) (x : ByteArray) : Delta × Bool := match o with
  | some st => qow st x
  | none => (d0, false)
end Go.Proofs.YtjfkeknnjjlepaaGreatDoor.Rf
end

section
/- What is written of a delta that is ok is read again, by both; so both read the same. -/
namespace Go.Proofs.YtjfkeknnjjlepaaGreatDoor.Rf
open Go Go.RowKit
set_option linter.unusedVariables false
set_option linter.unusedSimpArgs false
theorem qqn {s : ByteArray} {P : Nat → Prop} (h : ∀ i, i < s.size → P (bN s i)) : ∀ b ∈ bl s, P b.toNat := by
  intro b hb
  obtain ⟨j, hj, rfl⟩ := List.mem_iff_getElem.1 hb
  have := h j (by rw [q4y]; exact hj)
  unfold bN at this
  rwa [List.getD_eq_getElem?_getD, List.getElem?_eq_getElem hj] at this
theorem qib {s : ByteArray} (h : qgf s = true) : ∀ b ∈ bl s, 97 ≤ b.toNat ∧ b.toNat ≤ 122 := by
  refine qqn (P := fun n => 97 ≤ n ∧ n ≤ 122) fun i hi => ?_
  have := (q5b.1 h) i hi
  simp only [quf, Bool.and_eq_true, decide_eq_true_eq] at this
  exact this
theorem q83 {c : UInt8} {l : By} (h : ∀ b ∈ l, b.toNat ≠ c.toNat) : c ∉ l := fun hc => h c hc rfl
structure AffP (a : Aff) : Prop where
  f : ∀ b ∈ bl a.1, 65 ≤ b.toNat ∧ b.toNat ≤ 90
  s : ∀ b ∈ bl a.2.2.1, 97 ≤ b.toNat ∧ b.toNat ≤ 122
  d : ∀ b ∈ bl a.2.2.2.1, 97 ≤ b.toNat ∧ b.toNat ≤ 122
  w : ∀ b ∈ bl a.2.2.2.2, 97 ≤ b.toNat ∧ b.toNat ≤ 122
theorem qyp {a : Aff} (h : qgx a = true) : AffP a := by
  simp only [qgx, qgg, q50, Bool.and_eq_true, decide_eq_true_eq] at h
  obtain ⟨⟨h0, h1⟩, ⟨h2, _⟩, ⟨h3, _⟩, ⟨h4, _⟩, _⟩ := h
  refine ⟨qqn (P := fun n => 65 ≤ n ∧ n ≤ 90) fun i hi => ?_, qib h2, qib h3, qib h4⟩
  obtain rfl : i = 0 := by omega
  simp only [upB, Bool.and_eq_true, decide_eq_true_eq] at h1
  exact h1
theorem qk8 (b : Bool) : ∀ x ∈ qcd b, 97 ≤ x.toNat ∧ x.toNat ≤ 122 := by
  intro x hx
  cases b
  · simp [qcd] at hx
    rcases hx with rfl | rfl | rfl <;> decide
  · simp [qcd] at hx
    rcases hx with rfl | rfl | rfl | rfl | rfl <;> decide
theorem qvj {a : Aff} (h : qgx a = true) : qe0 32 (q7g a) = [qcd a.2.1, bl a.1, bl a.2.2.1, bl a.2.2.2.1, bl a.2.2.2.2] := by
  have p := qyp h
  have e32 : (32 : UInt8).toNat = 32 := rfl
  rw [q7g, q9m 32 _ _ (q83 (fun b hb => by have := qk8 _ b hb; omega)), q9m 32 _ _ (q83 (fun b hb => by have := p.f b hb; omega)),
    q9m 32 _ _ (q83 (fun b hb => by have := p.s b hb; omega)), q9m 32 _ _ (q83 (fun b hb => by have := p.d b hb; omega)),
    q93 32 _ (q83 (fun b hb => by have := p.w b hb; omega))]
theorem qvk {a : Aff} (h : qgx a = true) : (10 : UInt8) ∉ q7g a := by
  have p := qyp h
  have e10 : (10 : UInt8).toNat = 10 := rfl
  rw [q7g]
  simp only [List.mem_append, List.mem_cons, not_or]
  exact ⟨q83 (fun b hb => by have := qk8 _ b hb; omega), by decide, q83 (fun b hb => by have := p.f b hb; omega), by decide, q83 (fun b hb => by have := p.s b hb; omega), by decide,
    q83 (fun b hb => by have := p.d b hb; omega), by decide, q83 (fun b hb => by have := p.w b hb; omega)⟩
theorem qic {s : ByteArray} (h : q7u s = true) : ∀ b ∈ bl s, 97 ≤ b.toNat ∧ b.toNat ≤ 122 := by
  simp only [q7u, q50, Bool.and_eq_true] at h
  exact qib h.2.1
theorem qum {e : En} (h : qau e = true) : ∀ b ∈ bl e.2, 65 ≤ b.toNat ∧ b.toNat ≤ 90 := by
  simp only [qau, Bool.and_eq_true] at h
  refine qqn (P := fun n => 65 ≤ n ∧ n ≤ 90) fun i hi => ?_
  have := (q5b.1 h.1) i hi
  simp only [upB, Bool.and_eq_true, decide_eq_true_eq] at this
  exact this.1
theorem qid {e : En} (h : qau e = true) : ∀ b ∈ bl e.1, 97 ≤ b.toNat ∧ b.toNat ≤ 122 := by
  simp only [qau, Bool.and_eq_true] at h
  exact qic h.2.1
theorem qvl {e : En} (h : qau e = true) : ∀ b ∈ q6y e, (97 ≤ b.toNat ∧ b.toNat ≤ 122) ∨ b = 47 ∨ (65 ≤ b.toNat ∧ b.toNat ≤ 90) := by
  intro b hb
  unfold q6y at hb
  split at hb
  · exact .inl (qid h b hb)
  · rcases List.mem_append.1 hb with hb | hb
    · exact .inl (qid h b hb)
    · rcases List.mem_cons.1 hb with hb | hb
      · exact .inr (.inl hb)
      · exact .inr (.inr (qum h b hb))
theorem qqo {e : En} (h : qau e = true) (c : UInt8) (h1 : c.toNat ≠ 47) (h2 : c.toNat < 65) : c ∉ q6y e := fun hc => by
  have := qvl h c hc
  rcases this with h3 | rfl | h3
  · omega
  · exact h1 rfl
  · omega
structure OkP (d : Delta) : Prop where
  g : ∀ s ∈ d.1, q7u s = true
  c : ∀ e ∈ d.2.1, qau e = true
  l : ∀ a ∈ d.2.2.2, qgx a = true
theorem okP {d : Delta} (h : q5h d = true) : OkP d := by
  simp only [q5h, Bool.and_eq_true] at h
  obtain ⟨hw, he, ha, _⟩ := h
  refine ⟨fun s hs => ?_, fun e hm => ?_, fun a hm => ?_⟩
  · simp only [qdy, Bool.and_eq_true, q5b] at hw
    obtain ⟨i, hi, rfl⟩ := List.mem_iff_getElem.1 hs
    have := (hw.1 i hi).1
    rwa [List.getD_eq_getElem?_getD, List.getElem?_eq_getElem hi] at this
  · simp only [qaa, Bool.and_eq_true, q5b] at he
    obtain ⟨i, hi, rfl⟩ := List.mem_iff_getElem.1 hm
    have := (he.1 i hi).1
    rwa [List.getD_eq_getElem?_getD, List.getElem?_eq_getElem hi] at this
  · simp only [q8y, Bool.and_eq_true, q5b] at ha
    obtain ⟨i, hi, rfl⟩ := List.mem_iff_getElem.1 hm
    have := (ha.1 i hi).1
    rwa [List.getD_eq_getElem?_getD, List.getElem?_eq_getElem hi] at this
theorem qk9 {d : Delta} (h : OkP d) : ∀ p ∈ q5o d, (10 : UInt8) ∉ p := by
  have e10 : (10 : UInt8).toNat = 10 := rfl
  intro p hp
  unfold q5o at hp
  rcases List.mem_append.1 hp with hp | hp
  · split at hp
    · rw [List.mem_singleton.1 hp]
      decide
    · cases hp
  rcases List.mem_append.1 hp with hp | hp
  · obtain ⟨a, ha, rfl⟩ := List.mem_map.1 hp
    exact qvk (h.l a ha)
  rcases List.mem_append.1 hp with hp | hp
  · obtain ⟨s, hs, rfl⟩ := List.mem_map.1 hp
    have hw := h.g s hs
    simp only [List.mem_cons, not_or]
    exact ⟨by decide, q83 (fun b hb => by have := qic hw b hb; omega)⟩
  · obtain ⟨e, he, rfl⟩ := List.mem_map.1 hp
    have hw := h.c e he
    simp only [List.mem_cons, not_or]
    exact ⟨by decide, qqo hw 10 (by decide) (by decide)⟩
theorem qoe {d : Delta} (h : OkP d) : (q5g 10 (qbw d)).dropLast = (q5o d).map mkB := by
  unfold q5g qbw nlB
  rw [q52, qdb 10 _ (qk9 h), List.map_append]
  simp
theorem qeq (b : UInt8) (t : By) : qdc (mkB (b :: t)) = mkB t := q53 (by unfold qdc; rw [q7p, q52, q52]; rfl)
theorem qqp (st : Delta) : q95 st (mkB ql2) = (st.1, st.2.1, true, st.2.2.2) := by
  unfold q95
  rw [if_pos (q52 _)]
theorem qqq (st : Delta) : qaw st (mkB ql2) = ((st.1, st.2.1, true, st.2.2.2), true) := by
  unfold qaw
  rw [if_pos (q52 _)]
theorem qka (a : Aff) : ∃ b t, q7g a = b :: t ∧ b ≠ 97 ∧ b ≠ 45 ∧ b ≠ 43 := by
  rw [q7g]
  cases a.2.1
  · exact ⟨101, _, rfl, by decide, by decide, by decide⟩
  · exact ⟨102, _, rfl, by decide, by decide, by decide⟩
theorem qkb {a : Aff} (bs : List ByteArray) : qul ([mkB (qcd a.2.1), mkB (bl a.1), mkB (bl a.2.2.1), mkB (bl a.2.2.2.1), mkB (bl a.2.2.2.2)] ++ bs) = a := by
  show (mkB (bl a.1), decide (bl (mkB (qcd a.2.1)) = [102, 114, 111, 110, 116]), mkB (bl a.2.2.1), mkB (bl a.2.2.2.1), mkB (bl a.2.2.2.2)) = a
  rw [q9l, q9l, q9l, q9l, q52]
  have : decide (qcd a.2.1 = [102, 114, 111, 110, 116]) = a.2.1 := by cases a.2.1 <;> rfl
  rw [this]
theorem qn7 {a : Aff} (h : qgx a = true) : q5g 32 (mkB (q7g a)) = [mkB (qcd a.2.1), mkB (bl a.1), mkB (bl a.2.2.1), mkB (bl a.2.2.2.1), mkB (bl a.2.2.2.2)] := by
  unfold q5g
  rw [q52, qvj h]
  rfl
theorem qe4 (c b : UInt8) (t : By) : hd1 c (mkB (b :: t)) = decide (b = c) := by
  unfold hd1
  rw [q52, List.head?_cons]
  simp
theorem qdd {b : UInt8} {t : By} (h : b ≠ 97) : ¬ bl (mkB (b :: t)) = ql2 := by
  rw [q52]
  intro hc
  exact h (List.cons.inj hc).1
theorem qvm (st : Delta) {a : Aff} (h : qgx a = true) : q95 st (mkB (q7g a)) = (st.1, st.2.1, st.2.2.1, st.2.2.2 ++ [a]) := by
  obtain ⟨b, t, e, n1, n2, n3⟩ := qka a
  unfold q95 qvi
  rw [qn7 h, qkb, e, if_neg (qdd n1), qe4, qe4, decide_eq_false n2, decide_eq_false n3]
  simp
theorem qvn (st : Delta) {a : Aff} (h : qgx a = true) : qaw st (mkB (q7g a)) = ((st.1, st.2.1, st.2.2.1, st.2.2.2 ++ [a]), true) := by
  obtain ⟨b, t, e, n1, n2, n3⟩ := qka a
  have hg := qkb (a := a) []
  rw [List.append_nil] at hg
  unfold qaw
  rw [qn7 h, hg, if_neg (by rw [e]; exact qdd n1)]
  simp
theorem qvo (st : Delta) (s : ByteArray) : q95 st (mkB (45 :: bl s)) = (st.1 ++ [s], st.2) := by
  unfold q95
  rw [if_neg (qdd (by decide)), qe4, qeq, q9l]
  simp
theorem qkc {b : UInt8} {t : By} (hb : b ≠ 32) (h : (32 : UInt8) ∉ t) : q5g 32 (mkB (b :: t)) = [mkB (b :: t)] := by
  unfold q5g
  rw [q52, q93 32 _ (by simp only [List.mem_cons, not_or]; exact ⟨fun e => hb e.symm, h⟩)]
  rfl
theorem qvp (st : Delta) {s : ByteArray} (h : q7u s = true) : qaw st (mkB (45 :: bl s)) = ((st.1 ++ [s], st.2), true) := by
  have e32 : (32 : UInt8).toNat = 32 := rfl
  unfold qaw
  rw [if_neg (qdd (by decide)), qkc (by decide) (q83 (fun b hb => by have := qic h b hb; omega)), qe4, qeq, q9l]
  simp
theorem qof {e : En} (h : qau e = true) : qk3 (mkB (q6y e)) = e := by
  have e47 : (47 : UInt8).toNat = 47 := rfl
  have n0 : (47 : UInt8) ∉ bl e.1 := q83 (fun b hb => by have := qid h b hb; omega)
  unfold qk3
  rw [q52]
  unfold q6y
  by_cases c : bl e.2 = []
  · rw [if_pos c, qql 47 _ n0]
    have z : e.2 = mkB [] := q53 (by rw [c, q52])
    show (mkB (bl e.1), mkB []) = e
    rw [q9l, ← z]
  · rw [if_neg c, qvh 47 _ _ n0]
    show (mkB (bl e.1), mkB (bl e.2)) = e
    rw [q9l, q9l]
theorem qvq (st : Delta) {e : En} (h : qau e = true) : q95 st (mkB (43 :: q6y e)) = (st.1, st.2.1 ++ [e], st.2.2) := by
  unfold q95
  rw [if_neg (qdd (by decide)), qe4, qe4, qeq, qof h]
  simp
theorem qqr {e : En} (h : qau e = true) : qta (mkB (q6y e)) = (e, true) := by
  have e47 : (47 : UInt8).toNat = 47 := rfl
  have n0 : (47 : UInt8) ∉ bl e.1 := q83 (fun b hb => by have := qid h b hb; omega)
  have n1 : (47 : UInt8) ∉ bl e.2 := q83 (fun b hb => by have := qum h b hb; omega)
  unfold qta
  by_cases c : bl e.2 = []
  · have ec : q5g 47 (mkB (q6y e)) = [e.1] := by
      unfold q5g q6y
      rw [q52, if_pos c, q93 47 _ n0, List.map_cons, List.map_nil, q9l]
    have z : bz = e.2 := q53 (by rw [c]; rfl)
    rw [ec, if_neg (by simp), if_neg (by simp)]
    show ((e.1, bz), qau (e.1, bz)) = (e, true)
    rw [z]
    show (e, qau e) = (e, true)
    rw [h]
  · have ec : q5g 47 (mkB (q6y e)) = [e.1, e.2] := by
      unfold q5g q6y
      rw [q52, if_neg c, q9m 47 _ _ n0, q93 47 _ n1, List.map_cons, List.map_cons, List.map_nil, q9l, q9l]
    rw [ec, if_neg (by simp), if_pos (by rfl)]
    show (if bl e.2 = [] then (zE, false) else ((e.1, e.2), qau (e.1, e.2))) = (e, true)
    rw [if_neg c]
    show (e, qau e) = (e, true)
    rw [h]
theorem qvr (st : Delta) {e : En} (h : qau e = true) : qaw st (mkB (43 :: q6y e)) = ((st.1, st.2.1 ++ [e], st.2.2), true) := by
  unfold qaw
  rw [if_neg (qdd (by decide)), qkc (by decide) (qqo h 32 (by decide) (by decide)), qe4, qe4, qeq, qqr h]
  simp
theorem q9o : ∀ (xs ys : List ByteArray) (st : Delta), qe3 (xs ++ ys) st = (qe3 xs st).bind (qe3 ys)
  | [], ys, st => rfl
  | x :: xs, ys, st => by
    rw [List.cons_append, qe3, qe3]
    split
    · exact q9o xs ys _
    · rfl
theorem qwz : ∀ (xs : List Aff) (st : Delta), (∀ x ∈ xs, qgx x = true) → (xs.map (fun a => mkB (q7g a))).foldl q95 st = (st.1, st.2.1, st.2.2.1, st.2.2.2 ++ xs) ∧ qe3 (xs.map (fun a => mkB (q7g a))) st = some (st.1, st.2.1, st.2.2.1, st.2.2.2 ++ xs)
  | [], st, _ => by simp [qe3]
  | x :: xs, st, h => by
    have hx := h x List.mem_cons_self
    have ih := qwz xs (st.1, st.2.1, st.2.2.1, st.2.2.2 ++ [x]) (fun y hy => h y (List.mem_cons_of_mem _ hy))
    rw [List.map_cons, List.foldl_cons, qvm st hx, qe3, qvn st hx, if_pos rfl, ih.1, ih.2]
    simp
theorem qx0 : ∀ (xs : List ByteArray) (st : Delta), (∀ x ∈ xs, q7u x = true) → (xs.map (fun s => mkB (45 :: bl s))).foldl q95 st = (st.1 ++ xs, st.2) ∧ qe3 (xs.map (fun s => mkB (45 :: bl s))) st = some (st.1 ++ xs, st.2)
  | [], st, _ => by simp [qe3]
  | x :: xs, st, h => by
    have hx := h x List.mem_cons_self
    have ih := qx0 xs (st.1 ++ [x], st.2) (fun y hy => h y (List.mem_cons_of_mem _ hy))
    rw [List.map_cons, List.foldl_cons, qvo st x, qe3, qvp st hx, if_pos rfl, ih.1, ih.2]
    simp
theorem qx1 : ∀ (xs : List En) (st : Delta), (∀ x ∈ xs, qau x = true) → (xs.map (fun e => mkB (43 :: q6y e))).foldl q95 st = (st.1, st.2.1 ++ xs, st.2.2) ∧ qe3 (xs.map (fun e => mkB (43 :: q6y e))) st = some (st.1, st.2.1 ++ xs, st.2.2)
  | [], st, _ => by simp [qe3]
  | x :: xs, st, h => by
    have hx := h x List.mem_cons_self
    have ih := qx1 xs (st.1, st.2.1 ++ [x], st.2.2) (fun y hy => h y (List.mem_cons_of_mem _ hy))
    rw [List.map_cons, List.foldl_cons, qvq st hx, qe3, qvr st hx, if_pos rfl, ih.1, ih.2]
    simp
theorem qqs (d : Delta) : (q5o d).map mkB = (if d.2.2.1 then [mkB ql2] else []) ++ (d.2.2.2.map (fun a => mkB (q7g a)) ++ (d.1.map (fun s => mkB (45 :: bl s)) ++ d.2.1.map (fun e => mkB (43 :: q6y e)))) := by
  unfold q5o
  cases d.2.2.1 <;> simp [List.map_map, Function.comp_def]
theorem qqt {d : Delta} (h : OkP d) : ((q5o d).map mkB).foldl q95 d0 = d ∧ qe3 ((q5o d).map mkB) d0 = some d := by
  obtain ⟨g, c, a, l⟩ := d
  rw [qqs]
  have ha : (if a then [mkB ql2] else []).foldl q95 d0 = ([], [], a, []) ∧ qe3 (if a then [mkB ql2] else []) d0 = some ([], [], a, []) := by
    cases a
    · exact ⟨rfl, rfl⟩
    · simp only [if_true, List.foldl_cons, List.foldl_nil, qe3, qqp, qqq]
      exact ⟨rfl, rfl⟩
  have hl := qwz l ([], [], a, []) h.l
  have hg := qx0 g ([], [], a, l) h.g
  have hc := qx1 c (g, [], a, l) h.c
  simp only [List.nil_append] at hl hg hc
  constructor
  · simp only [List.foldl_append]
    rw [ha.1, hl.1, hg.1, hc.1]
  · rw [q9o, ha.2, Option.bind_some, q9o, hl.2, Option.bind_some, q9o, hg.2, Option.bind_some, hc.2]
def q7h (x : ByteArray) : Delta × Bool := qow ((q5g 10 x).dropLast.foldl q95 d0) x
theorem qer {d : Delta} (h : q5h d = true) : q7h (qbw d) = (d, true) ∧ qtd (qe3 (q5g 10 (qbw d)).dropLast d0) (qbw d) = (d, true) := by
  have ok := okP h
  have hb := qqt ok
  unfold q7h
  rw [qoe ok, hb.1, hb.2]
  unfold qtd qow
  simp [h]
theorem qea (x : ByteArray) (h : x.size ≤ 50000000) : Al fun k => q1g.f k x = some (q7h x) := qe9 x h
theorem qlr (x : ByteArray) : q7h x = (d0, false) ∨ ((q7h x).2 = true ∧ q5h (q7h x).1 = true ∧ qbw (q7h x).1 = x) := by
  unfold q7h qow
  split
  · rename_i h
    simp only [Bool.and_eq_true, decide_eq_true_eq] at h
    exact .inr ⟨rfl, h.1, h.2⟩
  · exact .inl rfl
theorem qkd {d : Delta} (h : tD d) : (qbw d).size ≤ 20000000 := by
  unfold qbw
  rw [size_mk]
  have h1 : ∀ p ∈ q5o d, p.length ≤ 4200 := by
    intro p hp
    unfold q5o at hp
    rcases List.mem_append.1 hp with hp | hp
    · split at hp
      · rw [List.mem_singleton.1 hp]; decide
      · cases hp
    rcases List.mem_append.1 hp with hp | hp
    · obtain ⟨a, ha, rfl⟩ := List.mem_map.1 hp
      have := q9n (h.2.2.2 a ha); omega
    rcases List.mem_append.1 hp with hp | hp
    · obtain ⟨s, hs, rfl⟩ := List.mem_map.1 hp
      have := h.1.2 s hs
      rw [q4y] at this
      simp only [List.length_cons]; omega
    · obtain ⟨e, he, rfl⟩ := List.mem_map.1 hp
      have := qar (h.2.1.2 e he)
      simp only [List.length_cons]; omega
  have h2 := qlo h1
  have h3 : (q5o d).length ≤ 3001 := by
    have a1 := h.1.1
    have a2 := h.2.1.1
    have a3 := h.2.2.1
    unfold q5o
    simp only [List.length_append, List.length_map]
    split <;> simp <;> omega
  have : (q5o d).length * 4201 ≤ 3001 * 4201 := Nat.mul_le_mul_right _ h3
  omega
end Go.Proofs.YtjfkeknnjjlepaaGreatDoor.Rf
end

section
/- Releases told plainly: texts and forms. -/
namespace Go.Proofs.YtjfkeknnjjlepaaGreatDoor.Rf
open Go Go.RowKit
set_option linter.unusedVariables false
set_option linter.unusedSimpArgs false
theorem qqu (p : UInt8 → Bool) : ∀ l : By, l.dropWhile p = [] ↔ ∀ b ∈ l, p b = true
  | [] => by simp
  | b :: l => by
    rw [List.dropWhile_cons]
    cases h : p b
    · simp [h]
    · simp [h, qqu p l]
theorem dw_head (p : UInt8 → Bool) : ∀ (l : By) (b : UInt8) (t : By), l.dropWhile p = b :: t → p b = false
  | [], b, t, h => by simp at h
  | a :: l, b, t, h => by
    rw [List.dropWhile_cons] at h
    cases ha : p a
    · rw [ha] at h
      simp at h
      rw [← h.1]
      exact ha
    · rw [ha] at h
      simp at h
      exact dw_head p l b t h
theorem qqv (l cs : By) : Lib.trimS l cs = [] ↔ ∀ b ∈ l, cs.contains b = true := by
  unfold Lib.trimS Lib.trimLeftS Lib.trimRightS
  rw [qqu]
  constructor
  · intro h
    cases e : l.reverse.dropWhile (cs.contains ·) with
    | nil =>
      intro b hb
      exact (qqu _ _).1 e b (List.mem_reverse.2 hb)
    | cons b t =>
      have h1 : cs.contains b = false := dw_head _ _ _ _ e
      have h2 : cs.contains b = true := h b (by rw [e]; simp)
      rw [h1] at h2
      cases h2
  · intro h b hb
    exact h b (List.mem_reverse.1 ((List.dropWhile_sublist _).subset (List.mem_reverse.1 hb)))
def qvs : By := [48, 49, 50, 51, 52, 53, 54, 55, 56, 57, 97, 98, 99, 100, 101, 102]
def qe5 (s : ByteArray) : Bool := decide (s.size = 64) && (bl s).all (fun b => qvs.contains b)
def ql3 (n : Int) (d : Delta) (sum : ByteArray) : ByteArray := mkB ([114, 101, 108, 101, 97, 115, 101, 32] ++ (Lib.itoa n ++ 32 :: (bl sum ++ 10 :: bl (qbw d))))
def qb3 (r : Release) : Bool := (decide (1 ≤ r.1) && decide (r.1 ≤ 999999)) && (q5h r.2.1 && (qe5 r.2.2.1 && (qe5 r.2.2.2 && decide ((ql3 r.1 r.2.1 r.2.2.1).size ≤ 1200))))
def qb4 (r : Release) : ByteArray := mkB (bl (ql3 r.1 r.2.1 r.2.2.1) ++ ([115, 101, 97, 108, 32] ++ (bl r.2.2.2 ++ [10])))
def qn8 (r : Release) : ByteArray := if qb3 r then qb4 r else bz
def qde (a : ByteArray) : Bool := decide (1 ≤ a.size ∧ a.size ≤ 64) && !decide (bN a (a.size - 1) = 0)
def qie (b : Book) : ByteArray := mkB (nlB (b.1.map q7g ++ b.2.map q6y))
def qxx (b : Book) : ByteArray := if q5r b then qie b else bz
def zR : Release := (0, ([], [], false, []), bz, bz)
def tB (b : Book) : Prop := (b.1.length ≤ 1000 ∧ ∀ a ∈ b.1, tA a) ∧ b.2.length ≤ 1000 ∧ ∀ e ∈ b.2, tE e
theorem qke {n : Int} (h0 : 0 ≤ n) (h1 : n ≤ 9223372036854775807) : (Lib.itoa n).length ≤ 21 := Lib.itoa_length_le _ (by omega) (by omega)
theorem qes {n : Int} (h0 : 0 ≤ n) : Lib.itoa n = Lib.decDigits n.toNat := by
  unfold Lib.itoa
  rw [if_neg (by omega)]
theorem qog {b : Book} (h : q5r b = true) : tB b := by
  have hl := qn2 h
  simp only [q5r, Bool.and_eq_true] at h
  obtain ⟨ha, he⟩ := h
  refine ⟨⟨by omega, fun a hm => ?_⟩, by omega, fun e hm => ?_⟩
  · simp only [q8y, Bool.and_eq_true, q5b] at ha
    obtain ⟨i, hi, rfl⟩ := List.mem_iff_getElem.1 hm
    have := (ha.1 i hi).1
    rw [List.getD_eq_getElem?_getD, List.getElem?_eq_getElem hi] at this
    simp only [qgx, qgg, q50, Bool.and_eq_true, decide_eq_true_eq, Option.getD_some] at this
    unfold tA
    omega
  · simp only [qaa, Bool.and_eq_true, q5b] at he
    obtain ⟨i, hi, rfl⟩ := List.mem_iff_getElem.1 hm
    have := (he.1 i hi).1
    rw [List.getD_eq_getElem?_getD, List.getElem?_eq_getElem hi] at this
    simp only [qau, q7u, q50, Bool.and_eq_true, decide_eq_true_eq, Option.getD_some] at this
    unfold tE
    omega
end Go.Proofs.YtjfkeknnjjlepaaGreatDoor.Rf
end
