import Derived.Shelf.Strings.Builder1
import Derived.Shelf.Strings.Builder2
import Derived.Shelf.Strings.OnBuilder
import Derived.Shelf.Strings.Trim
import Derived.Shelf.Small.Utf8
import Derived.Shelf.Small.Strs
import Derived.Shelf.Strings.BuilderF
import Derived.Shelf.Strings.BuilderK
import Derived.Shelf.Utf8.RuneCount
import Derived.Shelf.Strings.Builder2Cap
import Derived.Shelf.Strconv.Atoi
import Derived.Shelf.Strconv.Itoa0
import Derived.Shelf.Strconv.Itoa1
import Derived.Shelf.LaysM
import Derived.Shelf.Strconv.Itoa2
import Derived.Shelf.Strconv.Itoa3
import Derived.Shelf.Strconv.AtoiErrFast
import Derived.Shelf.Strconv.ParseIntEmpty
import Derived.Shelf.Strconv.AtoiFail
import Derived.Shelf.Strconv.Clone
import Derived.Shelf.Strconv.SyntaxError
import Derived.Shelf.LaysC
import Derived.Shelf.Strconv.ToError
import Derived.Shelf.Strconv.Lower
import Derived.Shelf.Strconv.ParseUint10
import Derived.Shelf.Strconv.ParseUint10Empty
import Derived.Shelf.Strconv.ParseUint10Any
import Derived.Shelf.Strconv.RangeError
import Derived.Shelf.Strconv.ToErrorRange
import Derived.Shelf.Strconv.ParseUintEmpty
import Derived.Shelf.Strconv.ParseUint10b64
import Derived.Shelf.Strconv.ParseUint10b32
import Derived.Shelf.Strconv.ParseUint10b16
import Derived.Shelf.Strconv.ParseUint10b8
import Derived.Shelf.Strconv.ParseUint10At
import Derived.Shelf.Strings.Search1
import Derived.Shelf.Strings.Search2
import Derived.Shelf.Strings.Search3
import Derived.Shelf.Strings.Cut
import Derived.Shelf.Strings.Count
import Derived.Shelf.Strings.Shaped
import Derived.Shelf.Strings.Prefix
import Derived.Shelf.Strings.Split
import Derived.Shelf.Strings.SplitShaped
import Derived.Shelf.Unicode.Decode
import Derived.Shelf.Strings.Runes
import Derived.Shelf.Strings.RuneCount
import Derived.Shelf.Strings.AsciiSet
import Derived.Shelf.Strings.Explode
import Derived.Shelf.Unicode.DecodeSlow
import Derived.Shelf.Unicode.DecodeAny
import Derived.Shelf.Unicode.DecodeLast
import Derived.Shelf.Strings.BuilderCap
import Derived.Test.YtaakfmpffhfaeaaGreatDoorProg
import Derived.Test.YtaakfmpffhfaeaaGreatDoorBExactReleaseOkx2
import Derived.Shelf.Strings.SlTrimAscii
import Derived.Test.YtaakfmpffhfaeaaGreatDoorBExactReleaseOkx3
import Derived.Test.YtaakfmpffhfaeaaGreatDoorBExactReleaseOkx4
import Derived.Test.YtaakfmpffhfaeaaGreatDoorBExactReleaseOkx6
import Derived.Test.YtaakfmpffhfaeaaGreatDoorBExactReleaseOkx1
import Derived.ChangeArms
import Derived.DataReads
import Derived.WideShapes
import Derived.ChangeShapes
import Derived.KernelRfl
import Derived.Lib.Join
import Derived.Lib.ItoaLen
import Derived.Lib.ItoaMem
import Derived.Test.YtaakfmpffhfaeaaGreatDoorBExactReleaseOkx7
import Derived.Below
import Derived.Carry
import Derived.ChangeOld
import Derived.Lib.LaidTab
import Derived.Test.YtaakfmpffhfaeaaGreatDoorRows
import Derived.Test.YtaakfmpffhfaeaaGreatDoorCards
import Derived.Test.YtaakfmpffhfaeaaGreatDoorTie
import Derived.WalkKit
import Derived.ProofKit
import Derived.OpenShut
import Derived.ShutString
import Derived.SizedLaws
import Derived.Deep.DeepHandedRow

section
/-
 DERIVED: THE SHELF's CONTRACTS AT THIS DUMP, IN PLAIN WORDS (tools/lay-plain.mjs out of 'TryzShelf.lean', which tools/lay-shelf.mjs wrote): THE SAME DECLARATIONS UNDER THE SAME NAMES: 'import', 'namespace', 'open', 'def', 'theorem' AND NOTHING ELSE: no command of the shelf's: FOR A HAND-IN. Each laying: the table of numbers ('.._ren') and one theorem, a field a fact of the dump's own or the kernel's comparison; each contract: ONE APPLICATION.
-/
namespace Go.Proofs
open Go.Shelf
def Tryz.lays156_ren : Go.Shelf.Ren := ⟨fun | 156 => 140 | 165 => 168 | 166 => 169 | 169 => 170 | 240 => 186 | 241 => 187 | 276 => 197 | 277 => 198 | n => n, fun | 31 => 22 | 9 => 9 | 3 => 3 | 4 => 4 | 0 => 0 | 20 => 20 | 72 => 172 | 76 => 71 | 70 => 170 | 37 => 122 | 75 => 70 | 127 => 182 | 164 => 198 | 5 => 5 | 80 => 60 | n => n, fun | n => n⟩
theorem Tryz.lays156 : Go.Proofs.Lays.n156 Tryz.prog Tryz.lays156_ren := {
 mixed := by kernel_rfl
 f156 := Tryz.func140.trans (congrArg some (by kernel_rfl))
 f165 := Tryz.func168.trans (congrArg some (by kernel_rfl))
 f166 := Tryz.func169.trans (congrArg some (by kernel_rfl))
 f169 := Tryz.func170.trans (congrArg some (by kernel_rfl))
 f240 := Tryz.func186.trans (congrArg some (by kernel_rfl))
 f241 := Tryz.func187.trans (congrArg some (by kernel_rfl))
 f276 := Tryz.func197.trans (congrArg some (by kernel_rfl))
 f277 := Tryz.func198.trans (congrArg some (by kernel_rfl))
 t0 := Tryz.underlying0
 a0 := Tryz.isAgg0
 z0 := Tryz.sizeOf0
 v0 := Tryz.zeroValue0
 t3 := Tryz.underlying3
 a3 := Tryz.isAgg3
 z3 := Tryz.sizeOf3
 v3 := Tryz.zeroValue3
 t4 := Tryz.underlying4
 a4 := Tryz.isAgg4
 z4 := Tryz.sizeOf4
 v4 := Tryz.zeroValue4
 t9 := Tryz.underlying9
 a9 := Tryz.isAgg9
 z9 := Tryz.sizeOf9
 v9 := Tryz.zeroValue9
 t20 := Tryz.underlying20
 a20 := Tryz.isAgg20
 z20 := Tryz.sizeOf20
 v20 := Tryz.zeroValue20
 t31 := Tryz.underlying22
 a31 := Tryz.isAgg22
 z31 := Tryz.sizeOf22
 v31 := Tryz.zeroValue22
 t37 := Tryz.underlying122
 a37 := Tryz.isAgg122
 z37 := Tryz.sizeOf122
 v37 := Tryz.zeroValue122
 t70 := Tryz.underlying170
 a70 := Tryz.isAgg170
 z70 := Tryz.sizeOf170
 v70 := Tryz.zeroValue170
 t72 := Tryz.underlying172
 a72 := Tryz.isAgg172
 z72 := Tryz.sizeOf172
 v72 := Tryz.zeroValue172
 t75 := Tryz.underlying70
 a75 := Tryz.isAgg70
 z75 := Tryz.sizeOf70
 v75 := Tryz.zeroValue70
 t76 := Tryz.underlying71
 a76 := Tryz.isAgg71
 z76 := Tryz.sizeOf71
 v76 := Tryz.zeroValue71
 t127 := Tryz.underlying182
 a127 := Tryz.isAgg182
 z127 := Tryz.sizeOf182
 v127 := Tryz.zeroValue182
 t164 := Tryz.underlying198
 a164 := Tryz.isAgg198
 z164 := Tryz.sizeOf198
 v164 := Tryz.zeroValue198 }
theorem Tryz.Builder_Extra_156 : Builder.Extra Tryz.prog Tryz.lays156_ren := {
 sizeBuilder := by kernel_rfl
 liesBuilder := by kernel_rfl
 t5 := Tryz.underlying5
 a5 := Tryz.isAgg5
 z5 := Tryz.sizeOf5
 v5 := Tryz.zeroValue5
 infoByte := by kernel_rfl
 cellsByte := by kernel_rfl
 sizeByte := by kernel_rfl
 neB5 := by decide }
open Go.RowKit in
theorem Tryz.strings_Join_none (a : Option Addr) (c : Nat) (sep : ByteArray) (w : World) :
  Calls Tryz.prog 140 #[.slice a 0 c, .string sep] w fun e w' => e = .returned (.string ⟨#[]⟩) ∧ w' = w := Any.strings_Join_none Tryz.lays156 Tryz.Builder_Extra_156 a c sep w
open Go.RowKit in
theorem Tryz.strings_Join (bk o c : Nat) (xs : List ByteArray) (sep : ByteArray) (w : World) (hcells : ∀ (j : Nat) x, xs[j]? = some x → w.cell? ⟨bk, o + j, none⟩ = some (.string x)) (hbk : bk < w.heap.size) (hN : xs.length ≤ 140737488355328) (hcap : xs.length ≤ c) (hlen : (Lib.join (xs.map (·.data.toList)) sep.data.toList).length ≤ 140737488355328) :
  Calls Tryz.prog 140 #[.slice (some ⟨bk, o, none⟩) xs.length c, .string sep] w fun e w' => e = .returned (.string ⟨(Lib.join (xs.map (·.data.toList)) sep.data.toList).toArray⟩) ∧ Below w.heap.size w w' := Any.strings_Join Tryz.lays156 Tryz.Builder_Extra_156 bk o c xs sep w hcells hbk hN hcap hlen
def Tryz.lays160_ren : Go.Shelf.Ren := ⟨fun | 160 => 115 | 232 => 144 | 231 => 143 | 227 => 145 | 234 => 147 | 233 => 146 | 236 => 149 | 235 => 148 | 228 => 171 | 271 => 173 | 151 => 172 | 197 => 155 | 120 => 189 | 152 => 188 | 260 => 178 | 137 => 199 | 119 => 200 | 224 => 181 | 225 => 180 | 217 => 179 | 266 => 195 | n => n, fun | 9 => 9 | 4 => 4 | 3 => 3 | 5 => 5 | 117 => 154 | 116 => 153 | 0 => 0 | 124 => 157 | 21 => 21 | 105 => 161 | 46 => 128 | 119 => 192 | 139 => 195 | 138 => 194 | n => n, fun | 3 => 5 | 4 => 6 | n => n⟩
theorem Tryz.lays160 : Go.Proofs.Lays.n160 Tryz.prog Tryz.lays160_ren := {
 mixed := by kernel_rfl
 f119 := Tryz.func200.trans (congrArg some (by kernel_rfl))
 f120 := Tryz.func189.trans (congrArg some (by kernel_rfl))
 f137 := Tryz.func199.trans (congrArg some (by kernel_rfl))
 f151 := Tryz.func172.trans (congrArg some (by kernel_rfl))
 f152 := Tryz.func188.trans (congrArg some (by kernel_rfl))
 f160 := Tryz.func115.trans (congrArg some (by kernel_rfl))
 f197 := Tryz.func155.trans (congrArg some (by kernel_rfl))
 f217 := Tryz.func179.trans (congrArg some (by kernel_rfl))
 f224 := Tryz.func181.trans (congrArg some (by kernel_rfl))
 f225 := Tryz.func180.trans (congrArg some (by kernel_rfl))
 f227 := Tryz.func145.trans (congrArg some (by kernel_rfl))
 f228 := Tryz.func171.trans (congrArg some (by kernel_rfl))
 f231 := Tryz.func143.trans (congrArg some (by kernel_rfl))
 f232 := Tryz.func144.trans (congrArg some (by kernel_rfl))
 f233 := Tryz.func146.trans (congrArg some (by kernel_rfl))
 f234 := Tryz.func147.trans (congrArg some (by kernel_rfl))
 f235 := Tryz.func148.trans (congrArg some (by kernel_rfl))
 f236 := Tryz.func149.trans (congrArg some (by kernel_rfl))
 f260 := Tryz.func178.trans (congrArg some (by kernel_rfl))
 f266 := Tryz.func195.trans (congrArg some (by kernel_rfl))
 f271 := Tryz.func173.trans (congrArg some (by kernel_rfl))
 t0 := Tryz.underlying0
 a0 := Tryz.isAgg0
 z0 := Tryz.sizeOf0
 v0 := Tryz.zeroValue0
 t3 := Tryz.underlying3
 a3 := Tryz.isAgg3
 z3 := Tryz.sizeOf3
 v3 := Tryz.zeroValue3
 t4 := Tryz.underlying4
 a4 := Tryz.isAgg4
 z4 := Tryz.sizeOf4
 v4 := Tryz.zeroValue4
 t5 := Tryz.underlying5
 a5 := Tryz.isAgg5
 z5 := Tryz.sizeOf5
 v5 := Tryz.zeroValue5
 t9 := Tryz.underlying9
 a9 := Tryz.isAgg9
 z9 := Tryz.sizeOf9
 v9 := Tryz.zeroValue9
 t21 := Tryz.underlying21
 a21 := Tryz.isAgg21
 z21 := Tryz.sizeOf21
 v21 := Tryz.zeroValue21
 t46 := Tryz.underlying128
 a46 := Tryz.isAgg128
 z46 := Tryz.sizeOf128
 v46 := Tryz.zeroValue128
 t105 := Tryz.underlying161
 a105 := Tryz.isAgg161
 z105 := Tryz.sizeOf161
 v105 := Tryz.zeroValue161
 t116 := Tryz.underlying153
 a116 := Tryz.isAgg153
 z116 := Tryz.sizeOf153
 t117 := Tryz.underlying154
 a117 := Tryz.isAgg154
 z117 := Tryz.sizeOf154
 v117 := Tryz.zeroValue154
 t119 := Tryz.underlying192
 a119 := Tryz.isAgg192
 z119 := Tryz.sizeOf192
 t124 := Tryz.underlying157
 a124 := Tryz.isAgg157
 z124 := Tryz.sizeOf157
 v124 := Tryz.zeroValue157
 t138 := Tryz.underlying194
 a138 := Tryz.isAgg194
 z138 := Tryz.sizeOf194
 v138 := Tryz.zeroValue194
 t139 := Tryz.underlying195
 a139 := Tryz.isAgg195
 z139 := Tryz.sizeOf195
 v139 := Tryz.zeroValue195
 g3 := by kernel_rfl
 g4 := by kernel_rfl }
def Tryz.laysM171_ren : Go.Shelf.Ren := ⟨fun | 171 => 71 | 243 => 116 | 246 => 150 | 283 => 174 | 284 => 175 | 285 => 176 | 286 => 177 | 129 => 191 | 317 => 190 | 318 => 192 | 319 => 193 | 320 => 194 | 337 => 201 | 338 => 202 | n => n, fun | 3 => 3 | 9 => 9 | 2 => 2 | 4 => 4 | 171 => 175 | 0 => 0 | 53 => 147 | 37 => 122 | 5 => 5 | 173 => 178 | 212 => 188 | 51 => 124 | 20 => 20 | 213 => 189 | 46 => 128 | 232 => 203 | 233 => 204 | n => n, fun | 17 => 4 | 18 => 7 | 19 => 8 | n => n⟩
theorem Tryz.laysM171 : Go.Proofs.LaysM.n171 Tryz.prog Tryz.laysM171_ren := {
 mixed := by kernel_rfl
 f129 := Tryz.func191.trans (congrArg some (by kernel_rfl))
 f171 := Tryz.func71.trans (congrArg some (by kernel_rfl))
 f243 := Tryz.func116.trans (congrArg some (by kernel_rfl))
 f246 := Tryz.func150.trans (congrArg some (by kernel_rfl))
 f283 := Tryz.func174.trans (congrArg some (by kernel_rfl))
 f284 := Tryz.func175.trans (congrArg some (by kernel_rfl))
 f285 := Tryz.func176.trans (congrArg some (by kernel_rfl))
 f286 := Tryz.func177.trans (congrArg some (by kernel_rfl))
 f317 := Tryz.func190.trans (congrArg some (by kernel_rfl))
 f318 := Tryz.func192.trans (congrArg some (by kernel_rfl))
 f319 := Tryz.func193.trans (congrArg some (by kernel_rfl))
 f320 := Tryz.func194.trans (congrArg some (by kernel_rfl))
 f337 := Tryz.func201.trans (congrArg some (by kernel_rfl))
 f338 := Tryz.func202.trans (congrArg some (by kernel_rfl))
 t0 := Tryz.underlying0
 a0 := Tryz.isAgg0
 z0 := Tryz.sizeOf0
 v0 := Tryz.zeroValue0
 t2 := Tryz.underlying2
 a2 := Tryz.isAgg2
 z2 := Tryz.sizeOf2
 v2 := Tryz.zeroValue2
 t3 := Tryz.underlying3
 a3 := Tryz.isAgg3
 z3 := Tryz.sizeOf3
 v3 := Tryz.zeroValue3
 t4 := Tryz.underlying4
 a4 := Tryz.isAgg4
 z4 := Tryz.sizeOf4
 v4 := Tryz.zeroValue4
 t5 := Tryz.underlying5
 a5 := Tryz.isAgg5
 z5 := Tryz.sizeOf5
 v5 := Tryz.zeroValue5
 t9 := Tryz.underlying9
 a9 := Tryz.isAgg9
 z9 := Tryz.sizeOf9
 v9 := Tryz.zeroValue9
 t20 := Tryz.underlying20
 a20 := Tryz.isAgg20
 z20 := Tryz.sizeOf20
 v20 := Tryz.zeroValue20
 t37 := Tryz.underlying122
 a37 := Tryz.isAgg122
 z37 := Tryz.sizeOf122
 v37 := Tryz.zeroValue122
 t46 := Tryz.underlying128
 a46 := Tryz.isAgg128
 z46 := Tryz.sizeOf128
 v46 := Tryz.zeroValue128
 t51 := Tryz.underlying124
 a51 := Tryz.isAgg124
 z51 := Tryz.sizeOf124
 v51 := Tryz.zeroValue124
 t53 := Tryz.underlying147
 a53 := Tryz.isAgg147
 z53 := Tryz.sizeOf147
 v53 := Tryz.zeroValue147
 t171 := Tryz.underlying175
 a171 := Tryz.isAgg175
 z171 := Tryz.sizeOf175
 v171 := Tryz.zeroValue175
 t173 := Tryz.underlying178
 a173 := Tryz.isAgg178
 z173 := Tryz.sizeOf178
 v173 := Tryz.zeroValue178
 t212 := Tryz.underlying188
 a212 := Tryz.isAgg188
 z212 := Tryz.sizeOf188
 v212 := Tryz.zeroValue188
 t213 := Tryz.underlying189
 a213 := Tryz.isAgg189
 z213 := Tryz.sizeOf189
 t232 := Tryz.underlying203
 a232 := Tryz.isAgg203
 z232 := Tryz.sizeOf203
 v232 := Tryz.zeroValue203
 t233 := Tryz.underlying204
 a233 := Tryz.isAgg204
 z233 := Tryz.sizeOf204
 v233 := Tryz.zeroValue204
 g17 := by kernel_rfl
 g18 := by kernel_rfl
 g19 := by kernel_rfl
 i0 := by kernel_rfl
 i2 := by kernel_rfl
 i3 := by kernel_rfl
 i4 := by kernel_rfl
 i5 := by kernel_rfl
 i9 := by kernel_rfl
 i20 := by kernel_rfl
 i37 := by kernel_rfl
 i46 := by kernel_rfl
 i51 := by kernel_rfl
 i53 := by kernel_rfl
 i171 := by kernel_rfl
 i173 := by kernel_rfl
 i212 := by kernel_rfl
 i232 := by kernel_rfl
 i233 := by kernel_rfl
 m17 := by kernel_rfl
 m18 := by kernel_rfl
 m19 := by kernel_rfl }
open Go.RowKit Go.Sort Go.Lib in
theorem Tryz.strconv_Itoa (n : Int) (h0 : -9223372036854775808 ≤ n) (h1 : n ≤ 9223372036854775807) (w : World) (htab : Lib.TabIs Tryz.prog w "internal/strconv.uint64pow10" .u64 Lib.pow10Tab) :
  Calls Tryz.prog 71 #[.int .i64 n] w fun e w' => e = .returned (.string ⟨(Lib.itoa n).toArray⟩) ∧ ∃ k os, w' = grow (w.drewN k) os := Any.strconv_Itoa Tryz.laysM171 n h0 h1 w htab
def Tryz.lays206_ren : Go.Shelf.Ren := ⟨fun | 206 => 124 | n => n, fun | 9 => 9 | 4 => 4 | 3 => 3 | n => n, fun | n => n⟩
theorem Tryz.lays206 : Go.Proofs.Lays.n206 Tryz.prog Tryz.lays206_ren := {
 mixed := by kernel_rfl
 f206 := Tryz.func124.trans (congrArg some (by kernel_rfl))
 t3 := Tryz.underlying3
 a3 := Tryz.isAgg3
 z3 := Tryz.sizeOf3
 v3 := Tryz.zeroValue3
 t4 := Tryz.underlying4
 a4 := Tryz.isAgg4
 z4 := Tryz.sizeOf4
 v4 := Tryz.zeroValue4
 t9 := Tryz.underlying9
 a9 := Tryz.isAgg9
 z9 := Tryz.sizeOf9
 v9 := Tryz.zeroValue9 }
open Go.RowKit Go.Lib in
theorem Tryz.stringslite_HasPrefix (s p : ByteArray) (w : World) :
  Calls Tryz.prog 124 #[.string s, .string p] w fun e w' => e = .returned (.bool (Lib.hasPrefix s.data.toList p.data.toList)) ∧ w' = w := Any.stringslite_HasPrefix Tryz.lays206 s p w
def Tryz.lays99_ren : Go.Shelf.Ren := ⟨fun | 99 => 84 | 206 => 124 | n => n, fun | 9 => 9 | 4 => 4 | 3 => 3 | n => n, fun | n => n⟩
theorem Tryz.lays99 : Go.Proofs.Lays.n99 Tryz.prog Tryz.lays99_ren := {
 mixed := by kernel_rfl
 f99 := Tryz.func84.trans (congrArg some (by kernel_rfl))
 f206 := Tryz.func124.trans (congrArg some (by kernel_rfl))
 t3 := Tryz.underlying3
 a3 := Tryz.isAgg3
 z3 := Tryz.sizeOf3
 v3 := Tryz.zeroValue3
 t4 := Tryz.underlying4
 a4 := Tryz.isAgg4
 z4 := Tryz.sizeOf4
 v4 := Tryz.zeroValue4
 t9 := Tryz.underlying9
 a9 := Tryz.isAgg9
 z9 := Tryz.sizeOf9
 v9 := Tryz.zeroValue9 }
open Go.RowKit Go.Lib in
theorem Tryz.strings_HasPrefix (s p : ByteArray) (w : World) :
  Calls Tryz.prog 84 #[.string s, .string p] w fun e w' => e = .returned (.bool (Lib.hasPrefix s.data.toList p.data.toList)) ∧ w' = w := Any.strings_HasPrefix Tryz.lays99 s p w
def Tryz.lays207_ren : Go.Shelf.Ren := ⟨fun | 207 => 185 | n => n, fun | 9 => 9 | 4 => 4 | 3 => 3 | n => n, fun | n => n⟩
theorem Tryz.lays207 : Go.Proofs.Lays.n207 Tryz.prog Tryz.lays207_ren := {
 mixed := by kernel_rfl
 f207 := Tryz.func185.trans (congrArg some (by kernel_rfl))
 t3 := Tryz.underlying3
 a3 := Tryz.isAgg3
 z3 := Tryz.sizeOf3
 v3 := Tryz.zeroValue3
 t4 := Tryz.underlying4
 a4 := Tryz.isAgg4
 z4 := Tryz.sizeOf4
 v4 := Tryz.zeroValue4
 t9 := Tryz.underlying9
 a9 := Tryz.isAgg9
 z9 := Tryz.sizeOf9
 v9 := Tryz.zeroValue9 }
open Go.RowKit Go.Lib in
theorem Tryz.stringslite_HasSuffix (s p : ByteArray) (w : World) (hs : s.size ≤ 9223372036854775807) :
  Calls Tryz.prog 185 #[.string s, .string p] w fun e w' => e = .returned (.bool (Lib.hasSuffix s.data.toList p.data.toList)) ∧ w' = w := Any.stringslite_HasSuffix Tryz.lays207 s p w hs
def Tryz.lays100_ren : Go.Shelf.Ren := ⟨fun | 100 => 166 | 207 => 185 | n => n, fun | 9 => 9 | 4 => 4 | 3 => 3 | n => n, fun | n => n⟩
theorem Tryz.lays100 : Go.Proofs.Lays.n100 Tryz.prog Tryz.lays100_ren := {
 mixed := by kernel_rfl
 f100 := Tryz.func166.trans (congrArg some (by kernel_rfl))
 f207 := Tryz.func185.trans (congrArg some (by kernel_rfl))
 t3 := Tryz.underlying3
 a3 := Tryz.isAgg3
 z3 := Tryz.sizeOf3
 v3 := Tryz.zeroValue3
 t4 := Tryz.underlying4
 a4 := Tryz.isAgg4
 z4 := Tryz.sizeOf4
 v4 := Tryz.zeroValue4
 t9 := Tryz.underlying9
 a9 := Tryz.isAgg9
 z9 := Tryz.sizeOf9
 v9 := Tryz.zeroValue9 }
open Go.RowKit Go.Lib in
theorem Tryz.strings_HasSuffix (s p : ByteArray) (w : World) (hs : s.size ≤ 9223372036854775807) :
  Calls Tryz.prog 166 #[.string s, .string p] w fun e w' => e = .returned (.bool (Lib.hasSuffix s.data.toList p.data.toList)) ∧ w' = w := Any.strings_HasSuffix Tryz.lays100 s p w hs
end Go.Proofs
end

section
namespace Go.Proofs.YtaakfmpffhfaeaaGreatDoor.M
open Go.RowKit Go.Proofs.YtaakfmpffhfaeaaGreatDoorW.PrintWords Go.Proofs.YtaakfmpffhfaeaaGreatDoorW.PrintLast Go.Proofs.YtaakfmpffhfaeaaGreatDoorW.PrintMore Go.Proofs.YtaakfmpffhfaeaaGreatDoor.Sq
set_option synthInstance.maxHeartbeats 2000000
set_option synthInstance.maxSize 4096
attribute [local go_sem] max2_int min2_int max_two min_two max_three min_three max_four min_four
set_option linter.unusedVariables false
set_option linter.unusedSimpArgs false
set_option maxHeartbeats 8000000
set_option maxRecDepth 100000
theorem gf140 : Go_ Tryz.prog 140 Tryz.f140 := ⟨Tryz.func140, by kernel_rfl, rfl⟩
def strings_Join.f (l0 : List ByteArray) (a1 : ByteArray) : Option (ByteArray) := if l0.length ≤ 140737488355328 then (if (Lib.join (l0.map (·.data.toList)) a1.data.toList).length ≤ 140737488355328 then (some (⟨(Lib.join (l0.map (·.data.toList)) a1.data.toList).toArray⟩ : ByteArray)) else (none)) else (none)
theorem strings_Join.calls (A0 : Option Addr) (c0 : Nat) (l0 : List ByteArray) (a1 : ByteArray) (r : ByteArray) (w : World) (hr0 : Kd.C Kd.string w A0 l0.length l0) (hc0 : l0.length ≤ c0) (h : strings_Join.f l0 a1 = some r) :
  Calls Tryz.prog 140 #[.slice A0 l0.length c0, .string a1] w fun e w' => e = .returned (.string r) ∧ Below w.heap.size w w' := by
 unfold strings_Join.f at h
 by_cases h0 : l0.length ≤ 140737488355328
 ·rw [if_pos h0] at h
  by_cases h1 : (Lib.join (l0.map (·.data.toList)) a1.data.toList).length ≤ 140737488355328
  ·rw [if_pos h1] at h
   obtain rfl := Option.some.inj h
   rcases Nat.eq_zero_or_pos l0.length with hz | hz
   ·obtain rfl : l0 = [] := List.eq_nil_of_length_eq_zero hz
    exact (Go.Proofs.Tryz.strings_Join_none A0 c0 a1 w).mono fun e w' ⟨he, hw⟩ => ⟨he, hw ▸ Below.refl _ _⟩
   ·obtain ⟨b, off, rfl, hb, hc⟩ := C_form hr0 hz (by show 0 < 1; omega)
    exact Go.Proofs.Tryz.strings_Join b off c0 l0 a1 w (fun j x hj => by
     obtain ⟨c, hcl, hK, hcell⟩ := hc j x hj
     have hK' : c = [.string x] := hK
     subst hK'
     have h3 := hcell 0 _ rfl
     have e : off + (j * Kd.string.sz + 0) = off + j := by show off + (j * 1 + 0) = off + j; omega
     rwa [e] at h3) hb h0 hc0 h1
  ·rw [if_neg h1] at h
   cases h
 ·rw [if_neg h0] at h
  cases h
theorem gf107 : Go_ Tryz.prog 107 Tryz.f107 := ⟨Tryz.func107, by kernel_rfl, rfl⟩
def impl_affixLine.f (a0_0 : ByteArray) (a0_1 : Bool) (a0_2 : ByteArray) (a0_3 : ByteArray) (a0_4 : ByteArray) : Option (ByteArray) := if a0_1 = true then ((strings_Join.f (([(⟨#[102, 114, 111, 110, 116]⟩ : ByteArray), a0_0, a0_2, a0_3, a0_4] : List ByteArray)) (⟨#[32]⟩ : ByteArray)).bind fun t105 => (if t105.size + 1 ≤ 9223372036854775807 then (some (t105 ++ (⟨#[10]⟩ : ByteArray))) else (none))) else ((strings_Join.f (([(⟨#[101, 110, 100]⟩ : ByteArray), a0_0, a0_2, a0_3, a0_4] : List ByteArray)) (⟨#[32]⟩ : ByteArray)).bind fun t109 => (if t109.size + 1 ≤ 9223372036854775807 then (some (t109 ++ (⟨#[10]⟩ : ByteArray))) else (none)))
theorem impl_affixLine.calls (a0_0 : ByteArray) (a0_1 : Bool) (a0_2 : ByteArray) (a0_3 : ByteArray) (a0_4 : ByteArray) (r : ByteArray) (w : World) (h : impl_affixLine.f a0_0 a0_1 a0_2 a0_3 a0_4 = some r) :
  Calls Tryz.prog 107 #[.agg #[.string a0_0, .bool a0_1, .string a0_2, .string a0_3, .string a0_4]] w fun e w' => e = .returned (.string r) ∧ Below w.heap.size w w' := by
 have hu103 := Tryz.underlying103
 have HB := Aside0.mk (Below.refl w.heap.size w)
 unfold impl_affixLine.f at h
 have H := h
 clear h
 by_cases c2 : a0_1 = true
 ·subst c2
  rw [if_pos rfl] at H
  obtain ⟨y102, hy102⟩ : ∃ y_ : List ByteArray, y_ = (([(⟨#[102, 114, 111, 110, 116]⟩ : ByteArray), a0_0, a0_2, a0_3, a0_4] : List ByteArray)) := ⟨_, rfl⟩
  first | replace H := bind_y hy102 H | rw [← hy102] at H
  have Ny102 := Aside0.mk hy102
  clear hy102
  replace H := Option.bind_eq_some_iff.mp H
  obtain ⟨t105, A30, H⟩ := H
  have A3 := Aside0.mk A30
  clear A30
  have c4 := ite_y H
  replace H := ite_t H
  have c4b0 := eq_true c4
  have c4b1 := decide_eq_true c4
  try have c4b2 : (9223372036854775807 < t105.size + 1) = False := eq_false (Nat.not_lt.2 c4)
  obtain rfl := Option.some.inj H
  go_enter Tryz.func107, Tryz.ntmps107
  go_wp2_with (first | ((with_reducible refine gate_dst (N := 1) rfl ?_); refine box_event rfl (N := 1) rfl (cs := #[.string a0_0, .bool true, .string a0_2, .string a0_3, .string a0_4]) (t := 103) (by go_simp <;> rfl) ?_; intro gb101 hg w5 hbox hb; have BK101 := Aside0.mk (hbox); have GW101 := Le_.mk (ge_of hg HB.out); have GE101 := Le_.mk (ge_of hg HB.out); replace HB := kB HB hb; clear hb hbox hg; have hz6 := cells_5 BK101.out) | ((with_reducible refine gate_dst (N := 15) rfl ?_); refine Kd.R_lit Kd.string _ 9 ?hg (N := 15) ?hd (xs := ([(⟨#[102, 114, 111, 110, 116]⟩ : ByteArray), a0_0, a0_2, a0_3, a0_4] : List ByteArray)) (inner := [.string (⟨#[102, 114, 111, 110, 116]⟩ : ByteArray), .string a0_0, .string a0_2, .string a0_3, .string a0_4]) (ok := fun _ => True) (okp := fun _ => True) ?hr ?hp (fun _ hk => hk) trivial (Below.refl _ _) (Nat.le_refl _) (by simp) ?_; (case hd => rfl); (case hg => rfl); (case hr => first | (go_simp; done) | (go_simp; rfl)); (case hp => exact (Reps.one (show Kd.M Kd.string _ _ _ (⟨#[102, 114, 111, 110, 116]⟩ : ByteArray) [.string (⟨#[102, 114, 111, 110, 116]⟩ : ByteArray)] from rfl) (Reps.one (show Kd.M Kd.string _ _ _ a0_0 [.string a0_0] from rfl) (Reps.one (show Kd.M Kd.string _ _ _ a0_2 [.string a0_2] from rfl) (Reps.one (show Kd.M Kd.string _ _ _ a0_3 [.string a0_3] from rfl) (Reps.one (show Kd.M Kd.string _ _ _ a0_4 [.string a0_4] from rfl) (Reps.none _ _))))))); intro v103 w7 ho8 hb hg_ hnew_; clear hg_ hnew_; (first | rw [← Ny102.out] at ho8 | (simp only [Int.reduceToNat] at ho8; rw [← Ny102.out] at ho8)); have HO104 := Aside0.mk (Kd.R_lower ho8 (bz HB.out)); replace BK101 := kb BK101 hb; replace HB := kB HB hb; clear hb ho8; obtain ⟨Ao9, co9, eo9⟩ := Kd.R_slice HO104.out; subst eo9) | ((with_reducible refine gate_callee (f := 140) rfl ?_); refine goL (some 16) rfl rfl gf140 #[.slice Ao9 y102.length co9, .string (⟨#[32]⟩ : ByteArray)] rfl rfl ?_; (with_reducible refine (strings_Join.calls _ _ y102 (⟨#[32]⟩ : ByteArray) t105 _ (cx (Kd.R_reads' HO104.out).2.2) ((Kd.R_reads' HO104.out).2.1) A3.out).mono ?_); rintro e w10 ⟨rfl, hb⟩; refine ⟨_, rfl, ?_⟩; replace HO104 := kR HO104 hb; replace BK101 := kb BK101 hb; replace HB := kB HB hb; (try clear hb); (try clear hb2); (try clear hk); (try clear hi)))
  go_ret
  exact ⟨by rfl, bx HB.out⟩
 ·replace c2 := Bool.eq_false_iff.mpr c2
  subst c2
  rw [if_neg Bool.false_ne_true] at H
  obtain ⟨y106, hy106⟩ : ∃ y_ : List ByteArray, y_ = (([(⟨#[101, 110, 100]⟩ : ByteArray), a0_0, a0_2, a0_3, a0_4] : List ByteArray)) := ⟨_, rfl⟩
  first | replace H := bind_y hy106 H | rw [← hy106] at H
  have Ny106 := Aside0.mk hy106
  clear hy106
  replace H := Option.bind_eq_some_iff.mp H
  obtain ⟨t109, A110, H⟩ := H
  have A11 := Aside0.mk A110
  clear A110
  have c12 := ite_y H
  replace H := ite_t H
  have c12b0 := eq_true c12
  have c12b1 := decide_eq_true c12
  try have c12b2 : (9223372036854775807 < t109.size + 1) = False := eq_false (Nat.not_lt.2 c12)
  obtain rfl := Option.some.inj H
  go_enter Tryz.func107, Tryz.ntmps107
  go_wp2_with (first | ((with_reducible refine gate_dst (N := 1) rfl ?_); refine box_event rfl (N := 1) rfl (cs := #[.string a0_0, .bool false, .string a0_2, .string a0_3, .string a0_4]) (t := 103) (by go_simp <;> rfl) ?_; intro gb101 hg w13 hbox hb; have BK101 := Aside0.mk (hbox); have GW101 := Le_.mk (ge_of hg HB.out); have GE101 := Le_.mk (ge_of hg HB.out); replace HB := kB HB hb; clear hb hbox hg; have hz14 := cells_5 BK101.out) | ((with_reducible refine gate_dst (N := 15) rfl ?_); refine Kd.R_lit Kd.string _ 9 ?hg (N := 15) ?hd (xs := ([(⟨#[101, 110, 100]⟩ : ByteArray), a0_0, a0_2, a0_3, a0_4] : List ByteArray)) (inner := [.string (⟨#[101, 110, 100]⟩ : ByteArray), .string a0_0, .string a0_2, .string a0_3, .string a0_4]) (ok := fun _ => True) (okp := fun _ => True) ?hr ?hp (fun _ hk => hk) trivial (Below.refl _ _) (Nat.le_refl _) (by simp) ?_; (case hd => rfl); (case hg => rfl); (case hr => first | (go_simp; done) | (go_simp; rfl)); (case hp => exact (Reps.one (show Kd.M Kd.string _ _ _ (⟨#[101, 110, 100]⟩ : ByteArray) [.string (⟨#[101, 110, 100]⟩ : ByteArray)] from rfl) (Reps.one (show Kd.M Kd.string _ _ _ a0_0 [.string a0_0] from rfl) (Reps.one (show Kd.M Kd.string _ _ _ a0_2 [.string a0_2] from rfl) (Reps.one (show Kd.M Kd.string _ _ _ a0_3 [.string a0_3] from rfl) (Reps.one (show Kd.M Kd.string _ _ _ a0_4 [.string a0_4] from rfl) (Reps.none _ _))))))); intro v107 w15 ho16 hb hg_ hnew_; clear hg_ hnew_; (first | rw [← Ny106.out] at ho16 | (simp only [Int.reduceToNat] at ho16; rw [← Ny106.out] at ho16)); have HO108 := Aside0.mk (Kd.R_lower ho16 (bz HB.out)); replace BK101 := kb BK101 hb; replace HB := kB HB hb; clear hb ho16; obtain ⟨Ao17, co17, eo17⟩ := Kd.R_slice HO108.out; subst eo17) | ((with_reducible refine gate_callee (f := 140) rfl ?_); refine goL (some 16) rfl rfl gf140 #[.slice Ao17 y106.length co17, .string (⟨#[32]⟩ : ByteArray)] rfl rfl ?_; (with_reducible refine (strings_Join.calls _ _ y106 (⟨#[32]⟩ : ByteArray) t109 _ (cx (Kd.R_reads' HO108.out).2.2) ((Kd.R_reads' HO108.out).2.1) A11.out).mono ?_); rintro e w18 ⟨rfl, hb⟩; refine ⟨_, rfl, ?_⟩; replace HO108 := kR HO108 hb; replace BK101 := kb BK101 hb; replace HB := kB HB hb; (try clear hb); (try clear hb2); (try clear hk); (try clear hi)))
  go_ret
  exact ⟨by rfl, bx HB.out⟩
theorem gf72 : Go_ Tryz.prog 72 Tryz.f72 := ⟨Tryz.func72, by kernel_rfl, rfl⟩
mutual
def impl_DeltaPut.j0 : Nat → ByteArray → List ByteArray → List (S100) → Bool → List (S103) → Option (ByteArray)
 | 0, _, _, _, _, _ => none
 | k + 1, x3, x102000, x102001, x102002, x102003 => impl_DeltaPut.l0 k x3 x102003 (x102003.length : Int) 0 x102000 x102001 x102002 x102003
def impl_DeltaPut.l0 : Nat → ByteArray → List (S103) → Int → Int → List ByteArray → List (S100) → Bool → List (S103) → Option (ByteArray)
 | 0, _, _, _, _, _, _, _, _ => none
 | k + 1, x3, x16, x17, x18, x102000, x102001, x102002, x102003 => if x18 < x17 then (if 0 ≤ x18 then (if x18 < (x16.length : Int) then ((impl_affixLine.f ((rd_T103 x16 x18).f0) ((rd_T103 x16 x18).f1) ((rd_T103 x16 x18).f2) ((rd_T103 x16 x18).f3) ((rd_T103 x16 x18).f4)).bind fun t105 => (if x3.size + t105.size ≤ 9223372036854775807 then (impl_DeltaPut.l0 k (x3 ++ t105) x16 x17 (wrap64 (x18 + 1)) x102000 x102001 x102002 x102003) else (none))) else (none)) else (none)) else (impl_DeltaPut.l1 k x3 x102000 (x102000.length : Int) 0 x102000 x102001 x102002 x102003)
def impl_DeltaPut.l1 : Nat → ByteArray → List ByteArray → Int → Int → List ByteArray → List (S100) → Bool → List (S103) → Option (ByteArray)
 | 0, _, _, _, _, _, _, _, _ => none
 | k + 1, x3, x28, x29, x30, x102000, x102001, x102002, x102003 => if x30 < x29 then (if 0 ≤ x30 then (if x30 < (x28.length : Int) then (if 1 + (rdOf ByteArray.empty x28 x30).size ≤ 9223372036854775807 then (if ((⟨#[45]⟩ : ByteArray) ++ (rdOf ByteArray.empty x28 x30)).size + 1 ≤ 9223372036854775807 then (if x3.size + (((⟨#[45]⟩ : ByteArray) ++ (rdOf ByteArray.empty x28 x30)) ++ (⟨#[10]⟩ : ByteArray)).size ≤ 9223372036854775807 then (impl_DeltaPut.l1 k (x3 ++ (((⟨#[45]⟩ : ByteArray) ++ (rdOf ByteArray.empty x28 x30)) ++ (⟨#[10]⟩ : ByteArray))) x28 x29 (wrap64 (x30 + 1)) x102000 x102001 x102002 x102003) else (none)) else (none)) else (none)) else (none)) else (none)) else (impl_DeltaPut.l2 k x3 x102001 (x102001.length : Int) 0)
def impl_DeltaPut.l2 : Nat → ByteArray → List (S100) → Int → Int → Option (ByteArray)
 | 0, _, _, _, _ => none
 | k + 1, x3, x41, x42, x43 => if x43 < x42 then (if 0 ≤ x43 then (if x43 < (x41.length : Int) then ((impl_entryLine.f ((rd_T100 x41 x43).f0) ((rd_T100 x41 x43).f1)).bind fun t109 => (if 1 + t109.size ≤ 9223372036854775807 then (if x3.size + ((⟨#[43]⟩ : ByteArray) ++ t109).size ≤ 9223372036854775807 then (impl_DeltaPut.l2 k (x3 ++ ((⟨#[43]⟩ : ByteArray) ++ t109)) x41 x42 (wrap64 (x43 + 1))) else (none)) else (none))) else (none)) else (none)) else (some x3)
end
def impl_DeltaPut.f (k : Nat) (l0_0 : List ByteArray) (l0_1 : List (S100)) (a0_2 : Bool) (l0_3 : List (S103)) : Option (ByteArray) := (impl_DeltaOk.f k l0_0 l0_1 a0_2 l0_3).bind fun t102 => (if t102 = true then (if a0_2 = true then (impl_DeltaPut.j0 k (⟨#[97, 102, 102, 105, 120, 101, 115, 10]⟩ : ByteArray) l0_0 l0_1 a0_2 l0_3) else (impl_DeltaPut.j0 k (⟨#[]⟩ : ByteArray) l0_0 l0_1 a0_2 l0_3)) else (some (⟨#[]⟩ : ByteArray)))
theorem impl_DeltaPut.mono_l : ∀ k, (∀ y0 y1 y2 y3 y4, LeO (impl_DeltaPut.j0 k y0 y1 y2 y3 y4) (impl_DeltaPut.j0 (k + 1) y0 y1 y2 y3 y4)) ∧ (∀ y0 y1 y2 y3 y4 y5 y6 y7, LeO (impl_DeltaPut.l0 k y0 y1 y2 y3 y4 y5 y6 y7) (impl_DeltaPut.l0 (k + 1) y0 y1 y2 y3 y4 y5 y6 y7)) ∧ (∀ y0 y1 y2 y3 y4 y5 y6 y7, LeO (impl_DeltaPut.l1 k y0 y1 y2 y3 y4 y5 y6 y7) (impl_DeltaPut.l1 (k + 1) y0 y1 y2 y3 y4 y5 y6 y7)) ∧ (∀ y0 y1 y2 y3, LeO (impl_DeltaPut.l2 k y0 y1 y2 y3) (impl_DeltaPut.l2 (k + 1) y0 y1 y2 y3))
 | 0 => ⟨fun _ _ _ _ _ r h => by simp [impl_DeltaPut.j0] at h, fun _ _ _ _ _ _ _ _ r h => by simp [impl_DeltaPut.l0] at h, fun _ _ _ _ _ _ _ _ r h => by simp [impl_DeltaPut.l1] at h, fun _ _ _ _ r h => by simp [impl_DeltaPut.l2] at h⟩
 | k + 1 => by
  obtain ⟨ih0, ih1, ih2, ih3⟩ := impl_DeltaPut.mono_l k
  refine ⟨?_, ?_, ?_, ?_⟩
  ·intro y0 y1 y2 y3 y4
   unfold impl_DeltaPut.j0
   have I0_ := fun a b c d e => LeC.mk (ih0 a b c d e)
   have I1_ := fun a b c d e f g h => LeC.mk (ih1 a b c d e f g h)
   have I2_ := fun a b c d e f g h => LeC.mk (ih2 a b c d e f g h)
   have I3_ := fun a b c d => LeC.mk (ih3 a b c d)
   have I4_ := fun a b c d e => LeC.mk (impl_DeltaOk.mono a b c d e)
   exact LeC.out
  ·intro y0 y1 y2 y3 y4 y5 y6 y7
   unfold impl_DeltaPut.l0
   have I0_ := fun a b c d e => LeC.mk (ih0 a b c d e)
   have I1_ := fun a b c d e f g h => LeC.mk (ih1 a b c d e f g h)
   have I2_ := fun a b c d e f g h => LeC.mk (ih2 a b c d e f g h)
   have I3_ := fun a b c d => LeC.mk (ih3 a b c d)
   have I4_ := fun a b c d e => LeC.mk (impl_DeltaOk.mono a b c d e)
   exact LeC.out
  ·intro y0 y1 y2 y3 y4 y5 y6 y7
   unfold impl_DeltaPut.l1
   have I0_ := fun a b c d e => LeC.mk (ih0 a b c d e)
   have I1_ := fun a b c d e f g h => LeC.mk (ih1 a b c d e f g h)
   have I2_ := fun a b c d e f g h => LeC.mk (ih2 a b c d e f g h)
   have I3_ := fun a b c d => LeC.mk (ih3 a b c d)
   have I4_ := fun a b c d e => LeC.mk (impl_DeltaOk.mono a b c d e)
   exact LeC.out
  ·intro y0 y1 y2 y3
   unfold impl_DeltaPut.l2
   have I0_ := fun a b c d e => LeC.mk (ih0 a b c d e)
   have I1_ := fun a b c d e f g h => LeC.mk (ih1 a b c d e f g h)
   have I2_ := fun a b c d e f g h => LeC.mk (ih2 a b c d e f g h)
   have I3_ := fun a b c d => LeC.mk (ih3 a b c d)
   have I4_ := fun a b c d e => LeC.mk (impl_DeltaOk.mono a b c d e)
   exact LeC.out
theorem impl_DeltaPut.mono : ∀ a0 a1 a2 a3 k, LeO (impl_DeltaPut.f k a0 a1 a2 a3) (impl_DeltaPut.f (k + 1) a0 a1 a2 a3) := by
 intro a0 a1 a2 a3 k
 obtain ⟨ih0, ih1, ih2, ih3⟩ := impl_DeltaPut.mono_l k
 unfold impl_DeltaPut.f
 have I0_ := fun a b c d e => LeC.mk (ih0 a b c d e)
 have I1_ := fun a b c d e f g h => LeC.mk (ih1 a b c d e f g h)
 have I2_ := fun a b c d e f g h => LeC.mk (ih2 a b c d e f g h)
 have I3_ := fun a b c d => LeC.mk (ih3 a b c d)
 have I4_ := fun a b c d e => LeC.mk (impl_DeltaOk.mono a b c d e)
 exact LeC.out
theorem impl_DeltaPut.calls (k : Nat) (A0_0 : Option Addr) (c0_0 : Nat) (l0_0 : List ByteArray) (A0_1 : Option Addr) (c0_1 : Nat) (l0_1 : List (S100)) (a0_2 : Bool) (A0_3 : Option Addr) (c0_3 : Nat) (l0_3 : List (S103)) (r : ByteArray) (w : World) (hr0_0 : Kd.C Kd.string w A0_0 l0_0.length l0_0) (hc0_0 : l0_0.length ≤ c0_0) (hr0_1 : Kd.C k100 w A0_1 l0_1.length l0_1) (hc0_1 : l0_1.length ≤ c0_1) (hr0_3 : Kd.C k103 w A0_3 l0_3.length l0_3) (hc0_3 : l0_3.length ≤ c0_3) (h : impl_DeltaPut.f k l0_0 l0_1 a0_2 l0_3 = some r) :
  Calls Tryz.prog 72 #[.agg #[.slice A0_0 l0_0.length c0_0, .slice A0_1 l0_1.length c0_1, .bool a0_2, .slice A0_3 l0_3.length c0_3]] w fun e w' => e = .returned (.string r) ∧ Below w.heap.size w w' := by
 have hu34 := Tryz.underlying34
 have hu103 := Tryz.underlying103
 have hu100 := Tryz.underlying100
 have HR0_0 := Aside0.mk hr0_0
 have HC0_0 := Aside0.mk hc0_0
 clear hr0_0 hc0_0
 have HR0_1 := Aside0.mk hr0_1
 have HC0_1 := Aside0.mk hc0_1
 clear hr0_1 hc0_1
 have HR0_3 := Aside0.mk hr0_3
 have HC0_3 := Aside0.mk hc0_3
 clear hr0_3 hc0_3
 have HB := Aside0.mk (Below.refl w.heap.size w)
 unfold impl_DeltaPut.f at h
 have H := h
 clear h
 replace H := Option.bind_eq_some_iff.mp H
 obtain ⟨t102, A20, H⟩ := H
 have A2 := Aside0.mk A20
 clear A20
 by_cases c3 : t102 = true
 ·subst c3
  rw [if_pos rfl] at H
  have HC4 := Aside0.mk H
  clear H
  go_enter Tryz.func72, Tryz.ntmps72
  go_upto_if 14 with (first | ((with_reducible refine gate_dst (N := 1) rfl ?_); refine box_event rfl (N := 1) rfl (cs := #[.slice A0_0 l0_0.length c0_0, .slice A0_1 l0_1.length c0_1, .bool a0_2, .slice A0_3 l0_3.length c0_3]) (t := 34) (by go_simp <;> rfl) ?_; intro gb101 hg w5 hbox hb; have BK101 := Aside0.mk (hbox); have GW101 := Le_.mk (ge_of hg HB.out); have GE101 := Le_.mk (ge_of hg HB.out); replace HB := kB HB hb; clear hb hbox hg; have hz6 := cells_4 BK101.out) | ((with_reducible refine gate_callee (f := 69) rfl ?_); refine goL (some 11) rfl rfl gf69 #[.agg #[.slice A0_0 l0_0.length c0_0, .slice A0_1 l0_1.length c0_1, .bool a0_2, .slice A0_3 l0_3.length c0_3]] rfl rfl ?_; (with_reducible refine (impl_DeltaOk.calls k _ _ l0_0 _ _ l0_1 a0_2 _ _ l0_3 true _ (cx (Kd.C_below HR0_0.out HB.out)) HC0_0.out (cx (Kd.C_below HR0_1.out HB.out)) HC0_1.out (cx (Kd.C_below HR0_3.out HB.out)) HC0_3.out A2.out).mono ?_); rintro e w7 ⟨rfl, hb⟩; refine ⟨_, rfl, ?_⟩; replace BK101 := kb BK101 hb; replace HB := kB HB hb; (try clear hb); (try clear hb2); (try clear hk); (try clear hi); have hz8 := cells_4 BK101.out))
  (try simp only [Act.put, List.setIfInBounds_toArray, List.set_cons_zero, List.set_cons_succ])
  go_cut [3] (fun v3 wc => ∃ (kq : Nat) (x3_3 : ByteArray), v3 = .string x3_3 ∧ Aside0 (impl_DeltaPut.j0 kq x3_3 l0_0 l0_1 a0_2 l0_3 = some r) ∧ Aside0 (kq ≤ k) ∧ Aside0 (wc.heap[gb101]? = some (.cells #[(.slice A0_0 l0_0.length c0_0), (.slice A0_1 l0_1.length c0_1), .bool a0_2, (.slice A0_3 l0_3.length c0_3)] 34 (0, 0))) ∧ Aside0 (Below w.heap.size w wc))
  case first =>
   have H := HC4.out
   clear HC4
   by_cases c9 : a0_2 = true
   ·subst c9
    rw [if_pos rfl] at H
    have H' := Aside0.mk H
    clear H
    go_wp2
    go_meet
    case rel => exact ⟨_, ((⟨#[97, 102, 102, 105, 120, 101, 115, 10]⟩ : ByteArray)), (by first | rfl | (simp; done) | (simp [*]; done)), H', ⟨by first | omega | exact Nat.le_refl _⟩, ⟨gx (BK101.out)⟩, ⟨bx HB.out⟩⟩
   ·replace c9 := Bool.eq_false_iff.mpr c9
    subst c9
    rw [if_neg Bool.false_ne_true] at H
    have H' := Aside0.mk H
    clear H
    go_wp2
    go_meet
    case rel => exact ⟨_, ((⟨#[]⟩ : ByteArray)), (by first | rfl | (simp; done) | (simp [*]; done)), H', ⟨by first | omega | exact Nat.le_refl _⟩, ⟨gx (BK101.out)⟩, ⟨bx HB.out⟩⟩
  case rest =>
   clear HC4
   try clear p2
   try clear c3
   try clear c6
   try clear c7
   try clear c9
   try clear hz6
   try clear hz8
   obtain ⟨kq, x3_3, rfl, HA, HJ3, BK101, HB⟩ := hcut
   cases kq with
   | zero => exact absurd HA.out (by simp [impl_DeltaPut.j0])
   | succ kj3 =>
    have H := HA.out
    clear HA
    simp only [impl_DeltaPut.j0] at H
    have H' := Aside0.mk H
    clear H
    have hz10 := cells_4 BK101.out
    go_wp2
    go_loopg [3, 18] kj3 (fun kq v3 v18 w' => ∃ (x3_2 : ByteArray) (x18_2 : Int), v3 = .string x3_2 ∧ v18 = .int .i64 x18_2 ∧ Aside0 (impl_DeltaPut.l0 kq x3_2 l0_3 (l0_3.length : Int) x18_2 l0_0 l0_1 a0_2 l0_3 = some r) ∧ Aside0 (kq ≤ kj3) ∧ Aside0 (w'.heap[gb101]? = some (.cells #[(.slice A0_0 l0_0.length c0_0), (.slice A0_1 l0_1.length c0_1), .bool a0_2, (.slice A0_3 l0_3.length c0_3)] 34 (0, 0))) ∧ Aside0 (Below w.heap.size w w'))
    case atStart => exact ⟨(x3_3), (0), (by first | rfl | (simp; done) | (simp [*]; done)), (by first | rfl | (simp; done) | (simp [*]; done)), H', ⟨Nat.le_refl _⟩, ⟨gx (BK101.out)⟩, ⟨bx HB.out⟩⟩
    case round =>
     clear H'
     try clear p2
     try clear c3
     try clear c6
     try clear c7
     try clear c9
     try clear hz10
     try clear hz6
     try clear hz8
     try clear p2
     obtain ⟨x3_2, x18_2, rfl, rfl, HA, HK2, BK101, HB⟩ := hrel
     cases gk with
     | zero => exact absurd HA.out (by simp [impl_DeltaPut.l0])
     | succ k2 =>
      have H := HA.out
      clear HA
      simp only [impl_DeltaPut.l0] at H
      by_cases c11 : x18_2 < (l0_3.length : Int)
      ·rw [if_pos c11] at H
       have c11b0 := decide_eq_true c11
       clear c11
       have c12 := ite_y H
       replace H := ite_t H
       have c12b0 := decide_eq_true c12
       clear c12
       have c13 := ite_y H
       replace H := ite_t H
       have c13b0 := decide_eq_true c13
       clear c13
       replace H := Option.bind_eq_some_iff.mp H
       obtain ⟨t105, A140, H⟩ := H
       have A14 := Aside0.mk A140
       clear A140
       have c15 := ite_y H
       replace H := ite_t H
       have c15b0 := eq_true c15
       have c15b1 := decide_eq_true c15
       try have c15b2 : (9223372036854775807 < x3_2.size + t105.size) = False := eq_false (Nat.not_lt.2 c15)
       have H' := Aside0.mk H
       clear H
       have p103 := of_decide_eq_true c12b0
       have q103 := of_decide_eq_true c13b0
       obtain ⟨ad103, e103, hx103_0, hx103_1, hx103_2, hx103_3, hx103_4⟩ := at_T103 HR0_3.out x18_2 p103 q103
       cases e103
       replace hx103_0 := px HB.out hx103_0
       replace hx103_1 := px HB.out hx103_1
       replace hx103_2 := px HB.out hx103_2
       replace hx103_3 := px HB.out hx103_3
       replace hx103_4 := px HB.out hx103_4
       replace p103 := eq_true p103
       replace q103 := eq_true q103
       go_wp2_with (first | ((with_reducible refine gate_dst (N := 5) rfl ?_); refine box_event rfl (N := 5) rfl (cs := #[.string (⟨#[]⟩ : ByteArray), .bool false, .string (⟨#[]⟩ : ByteArray), .string (⟨#[]⟩ : ByteArray), .string (⟨#[]⟩ : ByteArray)]) (t := 103) (by go_simp <;> rfl) ?_; intro gb104 hg w16 hbox hb; have BK104 := Aside0.mk (hbox); have GW104 := Le_.mk (ge_of hg HB.out); have GE104 := Le_.mk (ge_of hg HB.out); replace HB := kB HB hb; have NB101_104 := Ne_.mk (nl hg (blk_lt BK101.out)); have NB104_101 := Ne_.mk (ng hg (blk_lt BK101.out)); replace BK101 := kb BK101 hb; clear hb hbox hg; have hnb17 := NB104_101.out; have hnc17 := NB101_104.out; have hz18 := cells_5 BK104.out) | ((with_reducible refine gate_callee (f := 107) rfl ?_); refine goL (some 24) rfl rfl gf107 #[.agg #[.string ((rd_T103 l0_3 x18_2).f0), .bool ((rd_T103 l0_3 x18_2).f1), .string ((rd_T103 l0_3 x18_2).f2), .string ((rd_T103 l0_3 x18_2).f3), .string ((rd_T103 l0_3 x18_2).f4)]] rfl rfl ?_; (with_reducible refine (impl_affixLine.calls ((rd_T103 l0_3 x18_2).f0) ((rd_T103 l0_3 x18_2).f1) ((rd_T103 l0_3 x18_2).f2) ((rd_T103 l0_3 x18_2).f3) ((rd_T103 l0_3 x18_2).f4) t105 _ A14.out).mono ?_); rintro e w19 ⟨rfl, hb⟩; refine ⟨_, rfl, ?_⟩; replace BK101 := Aside0.mk (blk_below (g := gb101) (o := .cells #[.slice A0_0 l0_0.length c0_0, .slice A0_1 l0_1.length c0_1, .bool a0_2, .slice (some ad103) l0_3.length c0_3] 34 (0, 0)) (cl BK101.out rfl) hb); replace BK104 := Aside0.mk (blk_below (g := gb104) (o := .cells #[.string ((rd_T103 l0_3 x18_2).f0), .bool ((rd_T103 l0_3 x18_2).f1), .string ((rd_T103 l0_3 x18_2).f2), .string ((rd_T103 l0_3 x18_2).f3), .string ((rd_T103 l0_3 x18_2).f4)] 103 (0, 0)) (cl BK104.out rfl) hb); replace HB := kB HB hb; (try clear hb); (try clear hb2); (try clear hk); (try clear hi)))
       go_roundg k2
       case measure => have := HJ3.out; have := HK2.out; omega
       case rel => exact ⟨(x3_2 ++ t105), (wrap64 (x18_2 + 1)), (by first | rfl | (simp; done) | (simp [*]; done)), (by first | rfl | (simp; done) | (simp [*]; done)), H', ⟨by have := HJ3.out; have := HK2.out; omega⟩, ⟨gx (BK101.out)⟩, ⟨bx HB.out⟩⟩
      ·rw [if_neg c11] at H
       have c11b0 := decide_eq_false c11
       clear c11
       have H' := Aside0.mk H
       clear H
       have hz20 := cells_4 BK101.out
       go_wp2
       go_loopg [3, 30] k2 (fun kq v3 v30 w' => ∃ (x3_3 : ByteArray) (x30_3 : Int), v3 = .string x3_3 ∧ v30 = .int .i64 x30_3 ∧ Aside0 (impl_DeltaPut.l1 kq x3_3 l0_0 (l0_0.length : Int) x30_3 l0_0 l0_1 a0_2 l0_3 = some r) ∧ Aside0 (kq ≤ k2) ∧ Aside0 (w'.heap[gb101]? = some (.cells #[(.slice A0_0 l0_0.length c0_0), (.slice A0_1 l0_1.length c0_1), .bool a0_2, (.slice A0_3 l0_3.length c0_3)] 34 (0, 0))) ∧ Aside0 (Below w.heap.size w w'))
       case atStart => exact ⟨(x3_2), (0), (by first | rfl | (simp; done) | (simp [*]; done)), (by first | rfl | (simp; done) | (simp [*]; done)), H', ⟨Nat.le_refl _⟩, ⟨gx (BK101.out)⟩, ⟨bx HB.out⟩⟩
       case round =>
        clear H'
        try clear c1
        try clear p1
        try clear q1
        try clear hx1
        try clear p2
        try clear c3
        try clear c6
        try clear p6
        try clear c7
        try clear c9
        try clear c10
        try clear p10
        try clear q10
        try clear hx10
        try clear c11
        try clear c11b0
        try clear c12
        try clear c12b0
        try clear c13
        try clear c13b0
        try clear c15
        try clear c15b0
        try clear c15b1
        try clear c15b2
        try clear c17
        try clear hz10
        try clear hz18
        try clear hz20
        try clear hz6
        try clear hz8
        try clear hx103_0
        try clear hx103_1
        try clear hx103_2
        try clear hx103_3
        try clear hx103_4
        try clear p103
        try clear p2
        try clear q103
        obtain ⟨x3_3, x30_3, rfl, rfl, HA, HK3, BK101, HB⟩ := hrel
        cases gk with
        | zero => exact absurd HA.out (by simp [impl_DeltaPut.l1])
        | succ k3 =>
         have H := HA.out
         clear HA
         simp only [impl_DeltaPut.l1] at H
         by_cases c21 : x30_3 < (l0_0.length : Int)
         ·rw [if_pos c21] at H
          have c21b0 := decide_eq_true c21
          clear c21
          have c22 := ite_y H
          replace H := ite_t H
          have c22b0 := decide_eq_true c22
          clear c22
          have c23 := ite_y H
          replace H := ite_t H
          have c23b0 := decide_eq_true c23
          clear c23
          have c24 := ite_y H
          replace H := ite_t H
          have c24b0 := eq_true c24
          have c24b1 := decide_eq_true c24
          try have c24b2 : (9223372036854775807 < 1 + (rdOf ByteArray.empty l0_0 x30_3).size) = False := eq_false (Nat.not_lt.2 c24)
          have c25 := ite_y H
          replace H := ite_t H
          have c25b0 := eq_true c25
          have c25b1 := decide_eq_true c25
          try have c25b2 : (9223372036854775807 < ((⟨#[45]⟩ : ByteArray) ++ (rdOf ByteArray.empty l0_0 x30_3)).size + 1) = False := eq_false (Nat.not_lt.2 c25)
          try (have c25b3 := c25b2; simp only [ByteArray.size_append, show (⟨#[45]⟩ : ByteArray).size = 1 from rfl] at c25b3)
          try (have c25h_ := c25; simp [go_sem, *] at c25h_; have c25b5 : (9223372036854775807 < 1 + (rdOf ByteArray.empty l0_0 x30_3).size + 1) = False := eq_false (by omega); clear c25h_)
          have c26 := ite_y H
          replace H := ite_t H
          have c26b0 := eq_true c26
          have c26b1 := decide_eq_true c26
          try have c26b2 : (9223372036854775807 < x3_3.size + (((⟨#[45]⟩ : ByteArray) ++ (rdOf ByteArray.empty l0_0 x30_3)) ++ (⟨#[10]⟩ : ByteArray)).size) = False := eq_false (Nat.not_lt.2 c26)
          try (have c26b3 := c26b2; simp only [ByteArray.size_append, show (⟨#[10]⟩ : ByteArray).size = 1 from rfl, show (⟨#[45]⟩ : ByteArray).size = 1 from rfl] at c26b3)
          try (have c26h_ := c26; simp [go_sem, *] at c26h_; have c26b5 : (9223372036854775807 < x3_3.size + 1 + (rdOf ByteArray.empty l0_0 x30_3).size + 1) = False := eq_false (by omega); clear c26h_)
          have H' := Aside0.mk H
          clear H
          have p106 := of_decide_eq_true c22b0
          have q106 := of_decide_eq_true c23b0
          obtain ⟨ad106, e106, hx106_0⟩ := Kd.at_string HR0_0.out x30_3 p106 q106
          cases e106
          replace hx106_0 := px HB.out hx106_0
          replace p106 := eq_true p106
          replace q106 := eq_true q106
          go_wp2
          go_roundg k3
          case measure => have := HJ3.out; have := HK2.out; have := HK3.out; omega
          case rel => exact ⟨(x3_3 ++ (((⟨#[45]⟩ : ByteArray) ++ (rdOf ByteArray.empty l0_0 x30_3)) ++ (⟨#[10]⟩ : ByteArray))), (wrap64 (x30_3 + 1)), (by first | rfl | (simp; done) | (simp [*]; done)), (by first | rfl | (simp; done) | (simp [*]; done)), H', ⟨by have := HJ3.out; have := HK2.out; have := HK3.out; omega⟩, ⟨gx (BK101.out)⟩, ⟨bx HB.out⟩⟩
         ·rw [if_neg c21] at H
          have c21b0 := decide_eq_false c21
          clear c21
          have H' := Aside0.mk H
          clear H
          have hz27 := cells_4 BK101.out
          go_wp2
          go_loopg [3, 43] k3 (fun kq v3 v43 w' => ∃ (x3_4 : ByteArray) (x43_4 : Int), v3 = .string x3_4 ∧ v43 = .int .i64 x43_4 ∧ Aside0 (impl_DeltaPut.l2 kq x3_4 l0_1 (l0_1.length : Int) x43_4 = some r) ∧ Aside0 (kq ≤ k3) ∧ Aside0 (w'.heap[gb101]? = some (.cells #[(.slice A0_0 l0_0.length c0_0), (.slice A0_1 l0_1.length c0_1), .bool a0_2, (.slice A0_3 l0_3.length c0_3)] 34 (0, 0))) ∧ Aside0 (Below w.heap.size w w'))
          case atStart => exact ⟨(x3_3), (0), (by first | rfl | (simp; done) | (simp [*]; done)), (by first | rfl | (simp; done) | (simp [*]; done)), H', ⟨Nat.le_refl _⟩, ⟨gx (BK101.out)⟩, ⟨bx HB.out⟩⟩
          case round =>
           clear H'
           try clear c1
           try clear p1
           try clear q1
           try clear hx1
           try clear c2
           try clear p2
           try clear c3
           try clear c6
           try clear p6
           try clear c7
           try clear c9
           try clear c10
           try clear p10
           try clear q10
           try clear hx10
           try clear c11
           try clear c11b0
           try clear c12
           try clear c12b0
           try clear c13
           try clear c13b0
           try clear c15
           try clear c15b0
           try clear c15b1
           try clear c15b2
           try clear c17
           try clear c21
           try clear c21b0
           try clear c22
           try clear c22b0
           try clear c23
           try clear c23b0
           try clear c24
           try clear c24b0
           try clear c24b1
           try clear c24b2
           try clear c25
           try clear c25b0
           try clear c25b1
           try clear c25b2
           try clear c26
           try clear c26b0
           try clear c26b1
           try clear c26b2
           try clear hz10
           try clear hz18
           try clear hz20
           try clear hz27
           try clear hz6
           try clear hz8
           try clear hx103_0
           try clear hx103_1
           try clear hx103_2
           try clear hx103_3
           try clear hx103_4
           try clear hx106_0
           try clear p1
           try clear p10
           try clear p103
           try clear p106
           try clear p2
           try clear p6
           try clear q1
           try clear q10
           try clear q103
           try clear q106
           obtain ⟨x3_4, x43_4, rfl, rfl, HA, HK4, BK101, HB⟩ := hrel
           cases gk with
           | zero => exact absurd HA.out (by simp [impl_DeltaPut.l2])
           | succ k4 =>
            have H := HA.out
            clear HA
            simp only [impl_DeltaPut.l2] at H
            by_cases c28 : x43_4 < (l0_1.length : Int)
            ·rw [if_pos c28] at H
             have c28b0 := decide_eq_true c28
             clear c28
             have c29 := ite_y H
             replace H := ite_t H
             have c29b0 := decide_eq_true c29
             clear c29
             have c30 := ite_y H
             replace H := ite_t H
             have c30b0 := decide_eq_true c30
             clear c30
             replace H := Option.bind_eq_some_iff.mp H
             obtain ⟨t109, A310, H⟩ := H
             have A31 := Aside0.mk A310
             clear A310
             have c32 := ite_y H
             replace H := ite_t H
             have c32b0 := eq_true c32
             have c32b1 := decide_eq_true c32
             try have c32b2 : (9223372036854775807 < 1 + t109.size) = False := eq_false (Nat.not_lt.2 c32)
             have c33 := ite_y H
             replace H := ite_t H
             have c33b0 := eq_true c33
             have c33b1 := decide_eq_true c33
             try have c33b2 : (9223372036854775807 < x3_4.size + ((⟨#[43]⟩ : ByteArray) ++ t109).size) = False := eq_false (Nat.not_lt.2 c33)
             try (have c33b3 := c33b2; simp only [ByteArray.size_append, show (⟨#[43]⟩ : ByteArray).size = 1 from rfl] at c33b3)
             try (have c33h_ := c33; simp [go_sem, *] at c33h_; have c33b5 : (9223372036854775807 < x3_4.size + 1 + t109.size) = False := eq_false (by omega); clear c33h_)
             have H' := Aside0.mk H
             clear H
             have p107 := of_decide_eq_true c29b0
             have q107 := of_decide_eq_true c30b0
             obtain ⟨ad107, e107, hx107_0, hx107_1⟩ := at_T100 HR0_1.out x43_4 p107 q107
             cases e107
             replace hx107_0 := px HB.out hx107_0
             replace hx107_1 := px HB.out hx107_1
             replace p107 := eq_true p107
             replace q107 := eq_true q107
             go_wp2_with (first | ((with_reducible refine gate_dst (N := 9) rfl ?_); refine box_event rfl (N := 9) rfl (cs := #[.string (⟨#[]⟩ : ByteArray), .string (⟨#[]⟩ : ByteArray)]) (t := 100) (by go_simp <;> rfl) ?_; intro gb108 hg w34 hbox hb; have BK108 := Aside0.mk (hbox); have GW108 := Le_.mk (ge_of hg HB.out); have GE108 := Le_.mk (ge_of hg HB.out); replace HB := kB HB hb; have NB101_108 := Ne_.mk (nl hg (blk_lt BK101.out)); have NB108_101 := Ne_.mk (ng hg (blk_lt BK101.out)); replace BK101 := kb BK101 hb; clear hb hbox hg; have hnb35 := NB108_101.out; have hnc35 := NB101_108.out; have hz36 := cells_2 BK108.out) | ((with_reducible refine gate_callee (f := 108) rfl ?_); refine goL (some 49) rfl rfl gf108 #[.agg #[.string ((rd_T100 l0_1 x43_4).f0), .string ((rd_T100 l0_1 x43_4).f1)]] rfl rfl ?_; (with_reducible refine (impl_entryLine.calls ((rd_T100 l0_1 x43_4).f0) ((rd_T100 l0_1 x43_4).f1) t109 _ A31.out).mono ?_); rintro e w37 ⟨rfl, hb⟩; refine ⟨_, rfl, ?_⟩; replace BK101 := Aside0.mk (blk_below (g := gb101) (o := .cells #[.slice A0_0 l0_0.length c0_0, .slice (some ad107) l0_1.length c0_1, .bool a0_2, .slice A0_3 l0_3.length c0_3] 34 (0, 0)) (cl BK101.out rfl) hb); replace BK108 := Aside0.mk (blk_below (g := gb108) (o := .cells #[.string ((rd_T100 l0_1 x43_4).f0), .string ((rd_T100 l0_1 x43_4).f1)] 100 (0, 0)) (cl BK108.out rfl) hb); replace HB := kB HB hb; (try clear hb); (try clear hb2); (try clear hk); (try clear hi)))
             go_roundg k4
             case measure => have := HJ3.out; have := HK2.out; have := HK3.out; have := HK4.out; omega
             case rel => exact ⟨(x3_4 ++ ((⟨#[43]⟩ : ByteArray) ++ t109)), (wrap64 (x43_4 + 1)), (by first | rfl | (simp; done) | (simp [*]; done)), (by first | rfl | (simp; done) | (simp [*]; done)), H', ⟨by have := HJ3.out; have := HK2.out; have := HK3.out; have := HK4.out; omega⟩, ⟨gx (BK101.out)⟩, ⟨bx HB.out⟩⟩
            ·rw [if_neg c28] at H
             have c28b0 := decide_eq_false c28
             clear c28
             obtain rfl := Option.some.inj H
             go_wp2
             go_ret
             exact ⟨by rfl, bx HB.out⟩
 ·replace c3 := Bool.eq_false_iff.mpr c3
  subst c3
  rw [if_neg Bool.false_ne_true] at H
  obtain rfl := Option.some.inj H
  go_enter Tryz.func72, Tryz.ntmps72
  go_wp2_with (first | ((with_reducible refine gate_dst (N := 1) rfl ?_); refine box_event rfl (N := 1) rfl (cs := #[.slice A0_0 l0_0.length c0_0, .slice A0_1 l0_1.length c0_1, .bool a0_2, .slice A0_3 l0_3.length c0_3]) (t := 34) (by go_simp <;> rfl) ?_; intro gb101 hg w38 hbox hb; have BK101 := Aside0.mk (hbox); have GW101 := Le_.mk (ge_of hg HB.out); have GE101 := Le_.mk (ge_of hg HB.out); replace HB := kB HB hb; clear hb hbox hg; have hz39 := cells_4 BK101.out) | ((with_reducible refine gate_callee (f := 69) rfl ?_); refine goL (some 11) rfl rfl gf69 #[.agg #[.slice A0_0 l0_0.length c0_0, .slice A0_1 l0_1.length c0_1, .bool a0_2, .slice A0_3 l0_3.length c0_3]] rfl rfl ?_; (with_reducible refine (impl_DeltaOk.calls k _ _ l0_0 _ _ l0_1 a0_2 _ _ l0_3 false _ (cx (Kd.C_below HR0_0.out HB.out)) HC0_0.out (cx (Kd.C_below HR0_1.out HB.out)) HC0_1.out (cx (Kd.C_below HR0_3.out HB.out)) HC0_3.out A2.out).mono ?_); rintro e w40 ⟨rfl, hb⟩; refine ⟨_, rfl, ?_⟩; replace BK101 := kb BK101 hb; replace HB := kB HB hb; (try clear hb); (try clear hb2); (try clear hk); (try clear hi)))
  go_ret
  exact ⟨by rfl, bx HB.out⟩
theorem gf71 : Go_ Tryz.prog 71 Tryz.f71 := ⟨Tryz.func71, by kernel_rfl, rfl⟩
def strconv_Itoa.f (a0 : Int) : Option (ByteArray) := if -9223372036854775808 ≤ a0 then (if a0 ≤ 9223372036854775807 then (some (⟨(Lib.itoa a0).toArray⟩ : ByteArray)) else (none)) else (none)
theorem strconv_Itoa.calls (a0 : Int) (r : ByteArray) (w : World) (hGp : GWp w) (h : strconv_Itoa.f a0 = some r) :
  Calls Tryz.prog 71 #[.int .i64 a0] w fun e w' => e = .returned (.string r) ∧ Below w.heap.size w w' := by
 unfold strconv_Itoa.f at h
 by_cases h0 : -9223372036854775808 ≤ a0
 ·rw [if_pos h0] at h
  by_cases h1 : a0 ≤ 9223372036854775807
  ·rw [if_pos h1] at h
   obtain rfl := Option.some.inj h
   refine (Go.Proofs.Tryz.strconv_Itoa a0 h0 h1 w hGp.out).mono ?_
   rintro e w' ⟨rfl, k, os, rfl⟩
   exact ⟨rfl, below_grow_drewN w k os⟩
  ·rw [if_neg h1] at h
   cases h
 ·rw [if_neg h0] at h
  cases h
theorem gf29 : Go_ Tryz.prog 29 Tryz.f29 := ⟨Tryz.func29, by kernel_rfl, rfl⟩
def impl_Release_text.f (k : Nat) (a0_0 : Int) (l0_1 : List ByteArray) (l0_2 : List (S100)) (a0_3 : Bool) (l0_4 : List (S103)) (a0_5 : ByteArray) (a0_6 : ByteArray) : Option (ByteArray) := (strconv_Itoa.f a0_0).bind fun t102 => (if 8 + t102.size ≤ 9223372036854775807 then (if ((⟨#[114, 101, 108, 101, 97, 115, 101, 32]⟩ : ByteArray) ++ t102).size + 1 ≤ 9223372036854775807 then (if (((⟨#[114, 101, 108, 101, 97, 115, 101, 32]⟩ : ByteArray) ++ t102) ++ (⟨#[32]⟩ : ByteArray)).size + a0_5.size ≤ 9223372036854775807 then (if ((((⟨#[114, 101, 108, 101, 97, 115, 101, 32]⟩ : ByteArray) ++ t102) ++ (⟨#[32]⟩ : ByteArray)) ++ a0_5).size + 1 ≤ 9223372036854775807 then ((impl_DeltaPut.f k l0_1 l0_2 a0_3 l0_4).bind fun t103 => (if (((((⟨#[114, 101, 108, 101, 97, 115, 101, 32]⟩ : ByteArray) ++ t102) ++ (⟨#[32]⟩ : ByteArray)) ++ a0_5) ++ (⟨#[10]⟩ : ByteArray)).size + t103.size ≤ 9223372036854775807 then (some ((((((⟨#[114, 101, 108, 101, 97, 115, 101, 32]⟩ : ByteArray) ++ t102) ++ (⟨#[32]⟩ : ByteArray)) ++ a0_5) ++ (⟨#[10]⟩ : ByteArray)) ++ t103)) else (none))) else (none)) else (none)) else (none)) else (none))
theorem impl_Release_text.mono : ∀ a0 a1 a2 a3 a4 a5 a6 k, LeO (impl_Release_text.f k a0 a1 a2 a3 a4 a5 a6) (impl_Release_text.f (k + 1) a0 a1 a2 a3 a4 a5 a6) := by
 intro a0 a1 a2 a3 a4 a5 a6 k
 unfold impl_Release_text.f
 have I0_ := fun a b c d e => LeC.mk (impl_DeltaPut.mono a b c d e)
 exact LeC.out
def impl_Release_text.T1 : Bool × List (List Nat × List Nat) := (true, [([], []), ([0], [0]), ([1], [1]), ([2], [2]), ([3], [3]), ([], []), ([5], [5]), ([4, 6], [4, 6]), ([7], [7]), ([], []), ([9], [9]), ([10, 2], [10]), ([8, 11], [8, 11]), ([12, 11, 0, 1, 2, 3, 4, 5, 6, 7, 8, 9, 10, 11, 12], [12])])
def impl_Release_text.B1 : List Nat := [0, 1, 3, 7, 15, 0, 32, 127, 255, 0, 512, 1543, 4095, 8191]
theorem impl_Release_text.tab1 : rtab .any (opsOf Tryz.f29 1) = impl_Release_text.T1 := by kernel_rfl
theorem impl_Release_text.bits1 : waitsOk impl_Release_text.T1.2 impl_Release_text.B1 = true := by kernel_rfl
theorem impl_Release_text.calls (k : Nat) (a0_0 : Int) (A0_1 : Option Addr) (c0_1 : Nat) (l0_1 : List ByteArray) (A0_2 : Option Addr) (c0_2 : Nat) (l0_2 : List (S100)) (a0_3 : Bool) (A0_4 : Option Addr) (c0_4 : Nat) (l0_4 : List (S103)) (a0_5 : ByteArray) (a0_6 : ByteArray) (r : ByteArray) (w : World) (hGp : GWp w) (hr0_1 : Kd.C Kd.string w A0_1 l0_1.length l0_1) (hc0_1 : l0_1.length ≤ c0_1) (hr0_2 : Kd.C k100 w A0_2 l0_2.length l0_2) (hc0_2 : l0_2.length ≤ c0_2) (hr0_4 : Kd.C k103 w A0_4 l0_4.length l0_4) (hc0_4 : l0_4.length ≤ c0_4) (h : impl_Release_text.f k a0_0 l0_1 l0_2 a0_3 l0_4 a0_5 a0_6 = some r) :
  Calls Tryz.prog 29 #[.agg #[.int .i64 a0_0, .slice A0_1 l0_1.length c0_1, .slice A0_2 l0_2.length c0_2, .bool a0_3, .slice A0_4 l0_4.length c0_4, .string a0_5, .string a0_6]] w fun e w' => e = .returned (.string r) ∧ Below w.heap.size w w' := by
 have hu36 := Tryz.underlying36
 have hu34 := Tryz.underlying34
 have HGWp := Aside0.mk hGp
 clear hGp
 have HR0_1 := Aside0.mk hr0_1
 have HC0_1 := Aside0.mk hc0_1
 clear hr0_1 hc0_1
 have HR0_2 := Aside0.mk hr0_2
 have HC0_2 := Aside0.mk hc0_2
 clear hr0_2 hc0_2
 have HR0_4 := Aside0.mk hr0_4
 have HC0_4 := Aside0.mk hc0_4
 clear hr0_4 hc0_4
 have HB := Aside0.mk (Below.refl w.heap.size w)
 unfold impl_Release_text.f at h
 have H := h
 clear h
 replace H := Option.bind_eq_some_iff.mp H
 obtain ⟨t102, A20, H⟩ := H
 have A2 := Aside0.mk A20
 clear A20
 have c3 := ite_y H
 replace H := ite_t H
 have c3b0 := eq_true c3
 have c3b1 := decide_eq_true c3
 try have c3b2 : (9223372036854775807 < 8 + t102.size) = False := eq_false (Nat.not_lt.2 c3)
 have c4 := ite_y H
 replace H := ite_t H
 have c4b0 := eq_true c4
 have c4b1 := decide_eq_true c4
 try have c4b2 : (9223372036854775807 < ((⟨#[114, 101, 108, 101, 97, 115, 101, 32]⟩ : ByteArray) ++ t102).size + 1) = False := eq_false (Nat.not_lt.2 c4)
 try (have c4b3 := c4b2; simp only [ByteArray.size_append, show (⟨#[114, 101, 108, 101, 97, 115, 101, 32]⟩ : ByteArray).size = 8 from rfl] at c4b3)
 try (have c4h_ := c4; simp [go_sem, *] at c4h_; have c4b5 : (9223372036854775807 < 8 + t102.size + 1) = False := eq_false (by omega); clear c4h_)
 have c5 := ite_y H
 replace H := ite_t H
 have c5b0 := eq_true c5
 have c5b1 := decide_eq_true c5
 try have c5b2 : (9223372036854775807 < (((⟨#[114, 101, 108, 101, 97, 115, 101, 32]⟩ : ByteArray) ++ t102) ++ (⟨#[32]⟩ : ByteArray)).size + a0_5.size) = False := eq_false (Nat.not_lt.2 c5)
 try (have c5b3 := c5b2; simp only [ByteArray.size_append, show (⟨#[114, 101, 108, 101, 97, 115, 101, 32]⟩ : ByteArray).size = 8 from rfl, show (⟨#[32]⟩ : ByteArray).size = 1 from rfl] at c5b3)
 try (have c5h_ := c5; simp [go_sem, *] at c5h_; have c5b5 : (9223372036854775807 < 8 + t102.size + 1 + a0_5.size) = False := eq_false (by omega); clear c5h_)
 have c6 := ite_y H
 replace H := ite_t H
 have c6b0 := eq_true c6
 have c6b1 := decide_eq_true c6
 try have c6b2 : (9223372036854775807 < ((((⟨#[114, 101, 108, 101, 97, 115, 101, 32]⟩ : ByteArray) ++ t102) ++ (⟨#[32]⟩ : ByteArray)) ++ a0_5).size + 1) = False := eq_false (Nat.not_lt.2 c6)
 try (have c6b3 := c6b2; simp only [ByteArray.size_append, show (⟨#[114, 101, 108, 101, 97, 115, 101, 32]⟩ : ByteArray).size = 8 from rfl, show (⟨#[32]⟩ : ByteArray).size = 1 from rfl] at c6b3)
 try (have c6h_ := c6; simp [go_sem, *] at c6h_; have c6b5 : (9223372036854775807 < 8 + t102.size + 1 + a0_5.size + 1) = False := eq_false (by omega); clear c6h_)
 replace H := Option.bind_eq_some_iff.mp H
 obtain ⟨t103, A70, H⟩ := H
 have A7 := Aside0.mk A70
 clear A70
 have c8 := ite_y H
 replace H := ite_t H
 have c8b0 := eq_true c8
 have c8b1 := decide_eq_true c8
 try have c8b2 : (9223372036854775807 < (((((⟨#[114, 101, 108, 101, 97, 115, 101, 32]⟩ : ByteArray) ++ t102) ++ (⟨#[32]⟩ : ByteArray)) ++ a0_5) ++ (⟨#[10]⟩ : ByteArray)).size + t103.size) = False := eq_false (Nat.not_lt.2 c8)
 try (have c8b3 := c8b2; simp only [ByteArray.size_append, show (⟨#[10]⟩ : ByteArray).size = 1 from rfl, show (⟨#[114, 101, 108, 101, 97, 115, 101, 32]⟩ : ByteArray).size = 8 from rfl, show (⟨#[32]⟩ : ByteArray).size = 1 from rfl] at c8b3)
 try (have c8h_ := c8; simp [go_sem, *] at c8h_; have c8b5 : (9223372036854775807 < 8 + t102.size + 1 + a0_5.size + 1 + t103.size) = False := eq_false (by omega); clear c8h_)
 obtain rfl := Option.some.inj H
 go_enter Tryz.func29, Tryz.ntmps29
 try go_wp2_with (first | ((with_reducible refine gate_dst (N := 1) rfl ?_); refine box_event rfl (N := 1) rfl (cs := #[.int .i64 a0_0, .slice A0_1 l0_1.length c0_1, .slice A0_2 l0_2.length c0_2, .bool a0_3, .slice A0_4 l0_4.length c0_4, .string a0_5, .string a0_6]) (t := 36) (by go_simp <;> rfl) ?_; intro gb101 hg w9 hbox hb; have BK101 := Aside0.mk (hbox); have GW101 := Le_.mk (ge_of hg HB.out); have GE101 := Le_.mk (ge_of hg HB.out); replace HB := kB HB hb; clear hb hbox hg))
 replace BK101 := Aside0.mk (blk_drew BK101.out)
 replace HB := Aside0.mk (below_drew1 HB.out)
 refine start_ (n := 14) (S := fun w' => w'.cell? ⟨gb101, 0, none⟩ = some (.int .i64 a0_0) ∧ w'.cell? ⟨gb101, 1, none⟩ = some (.slice A0_1 l0_1.length c0_1) ∧ w'.cell? ⟨gb101, 2, none⟩ = some (.slice A0_2 l0_2.length c0_2) ∧ w'.cell? ⟨gb101, 3, none⟩ = some (.bool a0_3) ∧ w'.cell? ⟨gb101, 4, none⟩ = some (.slice A0_4 l0_4.length c0_4) ∧ w'.cell? ⟨gb101, 5, none⟩ = some (.string a0_5) ∧ w'.cell? ⟨gb101, 6, none⟩ = some (.string a0_6)) (ds := []) _ (by kernel_rfl) rfl rfl ⟨(blk_cell BK101.out 0).trans rfl, (blk_cell BK101.out 1).trans rfl, (blk_cell BK101.out 2).trans rfl, (blk_cell BK101.out 3).trans rfl, (blk_cell BK101.out 4).trans rfl, (blk_cell BK101.out 5).trans rfl, (blk_cell BK101.out 6).trans rfl⟩ (fun hHeld => ?_); refine with_tabW impl_Release_text.tab1 impl_Release_text.bits1 (fun HT_ HW_ => ?_)
 generalize w9.drew = w10 at BK101 HB hHeld ⊢
 refine ord_ [.p 0 3, .p 5 8, .p 9 12, .t 1 4, .t 6 9, .t 10 13] ?_
 repeat (first | (refine pu_ (v := ?_) (a' := ?_) HT_ rfl rfl (by kernel_rfl) (fun _ _ _ h => h) (by rfl) ?_ ?_ ?_; rotate_left 2; (intro w'; go_simp; with_reducible rfl); (simp only [Act.put, List.setIfInBounds_toArray, List.set_cons_zero, List.set_cons_succ, i64_w, i32_w]; rfl)) | (refine ta_ (v := ?_) (a' := ?_) HT_ HW_ rfl rfl (by kernel_rfl) (fun _ _ _ h => h) (by rfl) hHeld ?_ ?_ ?_; rotate_left 2; (rintro w' ⟨s0, s1, s2, s3, s4, s5, s6⟩; go_simp; with_reducible rfl); (simp only [Act.put, List.setIfInBounds_toArray, List.set_cons_zero, List.set_cons_succ, i64_w, i32_w]; rfl)))
 refine ord0 ?_
 refine on_ (i := 2) (N := some 5) HT_ rfl rfl (by kernel_rfl) (by decide) (fun K hK => ?_)
 refine goM gf71 #[.int .i64 a0_0] (by rfl) rfl rfl rfl ?_
 with_reducible refine (strconv_Itoa.calls a0_0 t102 _ ?side1 A2.out).mono ?_
 (case side1 => exact GWp.below HGWp.out (bx HB.out))
 rintro e w11 ⟨rfl, hb⟩
 refine ⟨_, rfl, ?_⟩
 replace BK101 := kb BK101 hb
 replace HB := kB HB hb
 (try clear hb)
 (try clear hb2)
 (try clear hk)
 (try clear hi)
 refine hK.out _ _ ⟨(blk_cell BK101.out 0).trans rfl, (blk_cell BK101.out 1).trans rfl, (blk_cell BK101.out 2).trans rfl, (blk_cell BK101.out 3).trans rfl, (blk_cell BK101.out 4).trans rfl, (blk_cell BK101.out 5).trans rfl, (blk_cell BK101.out 6).trans rfl⟩ (fun hHeld => ?_)
 clear hK K
 refine norm_ (a' := ?_) ?_ ?_
 rotate_left
 ·show Act.put _ (some 5) _ = _
  simp only [Act.put, List.setIfInBounds_toArray, List.set_cons_zero, List.set_cons_succ, i64_w, i32_w]
  rfl
 refine ord_ [.p 3 6, .p 4 7, .p 7 10, .p 8 11] ?_
 repeat (refine pu_ (v := ?_) (a' := ?_) HT_ rfl rfl (by kernel_rfl) (fun _ _ _ h => h) (by rfl) ?_ ?_ ?_; rotate_left 2; (intro w'; go_simp; with_reducible rfl); (simp only [Act.put, List.setIfInBounds_toArray, List.set_cons_zero, List.set_cons_succ, i64_w, i32_w]; rfl))
 refine ord0 ?_
 refine on_ (i := 11) (N := some 14) HT_ rfl rfl (by kernel_rfl) (by decide) (fun K hK => ?_)
 refine goM gf72 #[.agg #[.slice A0_1 l0_1.length c0_1, .slice A0_2 l0_2.length c0_2, .bool a0_3, .slice A0_4 l0_4.length c0_4]] (by rfl) rfl rfl rfl ?_
 with_reducible refine (impl_DeltaPut.calls k _ _ l0_1 _ _ l0_2 a0_3 _ _ l0_4 t103 _ ?side1 ?side2 ?side3 ?side4 ?side5 ?side6 A7.out).mono ?_
 (case side1 => exact cx (Kd.C_below HR0_1.out HB.out))
 (case side2 => exact HC0_1.out)
 (case side3 => exact cx (Kd.C_below HR0_2.out HB.out))
 (case side4 => exact HC0_2.out)
 (case side5 => exact cx (Kd.C_below HR0_4.out HB.out))
 (case side6 => exact HC0_4.out)
 rintro e w12 ⟨rfl, hb⟩
 refine ⟨_, rfl, ?_⟩
 replace BK101 := kb BK101 hb
 replace HB := kB HB hb
 (try clear hb)
 (try clear hb2)
 (try clear hk)
 (try clear hi)
 refine hK.out _ _ ⟨(blk_cell BK101.out 0).trans rfl, (blk_cell BK101.out 1).trans rfl, (blk_cell BK101.out 2).trans rfl, (blk_cell BK101.out 3).trans rfl, (blk_cell BK101.out 4).trans rfl, (blk_cell BK101.out 5).trans rfl, (blk_cell BK101.out 6).trans rfl⟩ (fun hHeld => ?_)
 clear hK K
 refine norm_ (a' := ?_) ?_ ?_
 rotate_left
 ·show Act.put _ (some 14) _ = _
  simp only [Act.put, List.setIfInBounds_toArray, List.set_cons_zero, List.set_cons_succ, i64_w, i32_w]
  rfl
 refine ord_ [.p 12 15, .p 13 2] ?_
 repeat (refine pu_ (v := ?_) (a' := ?_) HT_ rfl rfl (by kernel_rfl) (fun _ _ _ h => h) (by rfl) ?_ ?_ ?_; rotate_left 2; (intro w'; go_simp; with_reducible rfl); (simp only [Act.put, List.setIfInBounds_toArray, List.set_cons_zero, List.set_cons_succ, i64_w, i32_w]; rfl))
 refine ord0 ?_
 refine done_ (done_of HT_.out (by kernel_rfl)) ?_
 try go_wp2
 go_ret
 exact ⟨by rfl, bx HB.out⟩
def strings_Trim.f (a0 : ByteArray) (a1 : ByteArray) : Option (ByteArray) := if a0.size ≤ 9223372036854775807 then (if a1.size < 4294967281 then (if a1.data.toList.all (fun b => decide (b.toNat < 128)) = true then (some (⟨(Lib.trimS a0.data.toList a1.data.toList).toArray⟩ : ByteArray)) else (none)) else (none)) else (none)
theorem strings_Trim.calls (a0 : ByteArray) (a1 : ByteArray) (r : ByteArray) (w : World) (h : strings_Trim.f a0 a1 = some r) :
  Calls Tryz.prog 115 #[.string a0, .string a1] w fun e w' => e = .returned (.string r) ∧ Below w.heap.size w w' := by
 unfold strings_Trim.f at h
 by_cases h0 : a0.size ≤ 9223372036854775807
 ·rw [if_pos h0] at h
  by_cases h1 : a1.size < 4294967281
  ·rw [if_pos h1] at h
   by_cases h2 : a1.data.toList.all (fun b => decide (b.toNat < 128)) = true
   ·rw [if_pos h2] at h
    obtain rfl := Option.some.inj h
    exact Go.Proofs.Any.strings_Trim_laid Go.Proofs.Tryz.lays160 (by kernel_rfl) a0 a1 w h0 h1 (Go.Proofs.ascii_of_all h2)
   ·rw [if_neg h2] at h
    cases h
  ·rw [if_neg h1] at h
   cases h
 ·rw [if_neg h0] at h
  cases h
def impl_digits.f (a0 : ByteArray) : Option (Bool) := if (a0.size : Int) = 64 then ((strings_Trim.f a0 (⟨#[48, 49, 50, 51, 52, 53, 54, 55, 56, 57, 97, 98, 99, 100, 101, 102]⟩ : ByteArray)).bind fun t101 => (some (t101.toList == ([] : List UInt8)))) else (some false)
theorem impl_digits.calls (a0 : ByteArray) (r : Bool) (w : World) (h : impl_digits.f a0 = some r) :
  Calls Tryz.prog 70 #[.string a0] w fun e w' => e = .returned (.bool r) ∧ Below w.heap.size w w' := by
 have HB := Aside0.mk (Below.refl w.heap.size w)
 unfold impl_digits.f at h
 have H := h
 clear h
 by_cases c2 : (a0.size : Int) = 64
 ·rw [if_pos c2] at H
  have c2b0 : ((a0.size : Int) == 64) = true := beq_iff_eq.mpr c2
  have c2b1 : ((a0.size : Int) != 64) = false := bne_eq_false_iff_eq.mpr c2
  clear c2
  replace H := Option.bind_eq_some_iff.mp H
  obtain ⟨t101, A30, H⟩ := H
  have A3 := Aside0.mk A30
  clear A30
  obtain rfl := Option.some.inj H
  go_enter Tryz.func70, Tryz.ntmps70
  go_wp2_with (first | (go_at_call 115; (with_reducible refine (strings_Trim.calls a0 (⟨#[48, 49, 50, 51, 52, 53, 54, 55, 56, 57, 97, 98, 99, 100, 101, 102]⟩ : ByteArray) t101 _ A3.out).mono ?_); rintro e w4 ⟨rfl, hb⟩; replace HB := kB HB hb; (try clear hb); (try clear hb2); (try clear hk); (try clear hi)))
  go_ret
  exact ⟨by first | rfl | (simp [*] <;> rfl), bx HB.out⟩
 ·rw [if_neg c2] at H
  have c2b0 : ((a0.size : Int) == 64) = false := beq_eq_false_iff_ne.mpr c2
  have c2b1 : ((a0.size : Int) != 64) = true := bne_iff_ne.mpr c2
  obtain rfl := Option.some.inj H
  go_enter Tryz.func70, Tryz.ntmps70
  go_wp2
  go_ret
  exact ⟨by first | rfl | (simp [*] <;> rfl), bx HB.out⟩
theorem gf28 : Go_ Tryz.prog 28 Tryz.f28 := ⟨Tryz.func28, by kernel_rfl, rfl⟩
def impl_Release_wellFormed.f (k : Nat) (a0_0 : Int) (l0_1 : List ByteArray) (l0_2 : List (S100)) (a0_3 : Bool) (l0_4 : List (S103)) (a0_5 : ByteArray) (a0_6 : ByteArray) : Option (Bool) := (impl_within.f a0_0 1 999999).bind fun t102 => (if t102 = true then ((impl_DeltaOk.f k l0_1 l0_2 a0_3 l0_4).bind fun t103 => (if t103 = true then ((impl_digits.f a0_5).bind fun t104 => (if t104 = true then ((impl_digits.f a0_6).bind fun t105 => (if t105 = true then ((impl_Release_text.f k a0_0 l0_1 l0_2 a0_3 l0_4 a0_5 a0_6).bind fun t106 => (some (decide ((t106.size : Int) ≤ 1200)))) else (some false))) else (some false))) else (some false))) else (some false))
theorem impl_Release_wellFormed.mono : ∀ a0 a1 a2 a3 a4 a5 a6 k, LeO (impl_Release_wellFormed.f k a0 a1 a2 a3 a4 a5 a6) (impl_Release_wellFormed.f (k + 1) a0 a1 a2 a3 a4 a5 a6) := by
 intro a0 a1 a2 a3 a4 a5 a6 k
 unfold impl_Release_wellFormed.f
 have I0_ := fun a b c d e => LeC.mk (impl_DeltaOk.mono a b c d e)
 have I1_ := fun a b c d e f g h => LeC.mk (impl_Release_text.mono a b c d e f g h)
 exact LeC.out
theorem impl_Release_wellFormed.calls (k : Nat) (a0_0 : Int) (A0_1 : Option Addr) (c0_1 : Nat) (l0_1 : List ByteArray) (A0_2 : Option Addr) (c0_2 : Nat) (l0_2 : List (S100)) (a0_3 : Bool) (A0_4 : Option Addr) (c0_4 : Nat) (l0_4 : List (S103)) (a0_5 : ByteArray) (a0_6 : ByteArray) (r : Bool) (w : World) (hGp : GWp w) (hr0_1 : Kd.C Kd.string w A0_1 l0_1.length l0_1) (hc0_1 : l0_1.length ≤ c0_1) (hr0_2 : Kd.C k100 w A0_2 l0_2.length l0_2) (hc0_2 : l0_2.length ≤ c0_2) (hr0_4 : Kd.C k103 w A0_4 l0_4.length l0_4) (hc0_4 : l0_4.length ≤ c0_4) (h : impl_Release_wellFormed.f k a0_0 l0_1 l0_2 a0_3 l0_4 a0_5 a0_6 = some r) :
  Calls Tryz.prog 28 #[.agg #[.int .i64 a0_0, .slice A0_1 l0_1.length c0_1, .slice A0_2 l0_2.length c0_2, .bool a0_3, .slice A0_4 l0_4.length c0_4, .string a0_5, .string a0_6]] w fun e w' => e = .returned (.bool r) ∧ Below w.heap.size w w' := by
 have hu36 := Tryz.underlying36
 have hu34 := Tryz.underlying34
 have HGWp := Aside0.mk hGp
 clear hGp
 have HR0_1 := Aside0.mk hr0_1
 have HC0_1 := Aside0.mk hc0_1
 clear hr0_1 hc0_1
 have HR0_2 := Aside0.mk hr0_2
 have HC0_2 := Aside0.mk hc0_2
 clear hr0_2 hc0_2
 have HR0_4 := Aside0.mk hr0_4
 have HC0_4 := Aside0.mk hc0_4
 clear hr0_4 hc0_4
 have HB := Aside0.mk (Below.refl w.heap.size w)
 unfold impl_Release_wellFormed.f at h
 have H := h
 clear h
 replace H := Option.bind_eq_some_iff.mp H
 obtain ⟨t102, A20, H⟩ := H
 have A2 := Aside0.mk A20
 clear A20
 by_cases c3 : t102 = true
 ·subst c3
  rw [if_pos rfl] at H
  replace H := Option.bind_eq_some_iff.mp H
  obtain ⟨t103, A40, H⟩ := H
  have A4 := Aside0.mk A40
  clear A40
  by_cases c5 : t103 = true
  ·subst c5
   rw [if_pos rfl] at H
   replace H := Option.bind_eq_some_iff.mp H
   obtain ⟨t104, A60, H⟩ := H
   have A6 := Aside0.mk A60
   clear A60
   by_cases c7 : t104 = true
   ·subst c7
    rw [if_pos rfl] at H
    replace H := Option.bind_eq_some_iff.mp H
    obtain ⟨t105, A80, H⟩ := H
    have A8 := Aside0.mk A80
    clear A80
    by_cases c9 : t105 = true
    ·subst c9
     rw [if_pos rfl] at H
     replace H := Option.bind_eq_some_iff.mp H
     obtain ⟨t106, A100, H⟩ := H
     have A10 := Aside0.mk A100
     clear A100
     obtain rfl := Option.some.inj H
     go_enter Tryz.func28, Tryz.ntmps28
     go_wp2_with (first | ((with_reducible refine gate_dst (N := 1) rfl ?_); (try (refine gate_guard (by rfl) ?_; dsimp only)); refine box_event rfl (N := 1) rfl (cs := #[.int .i64 a0_0, .slice A0_1 l0_1.length c0_1, .slice A0_2 l0_2.length c0_2, .bool a0_3, .slice A0_4 l0_4.length c0_4, .string a0_5, .string a0_6]) (t := 36) (by go_simp <;> rfl) ?_; intro gb101 hg w11 hbox hb; have BK101 := Aside0.mk (hbox); have GW101 := Le_.mk (ge_of hg HB.out); have GE101 := Le_.mk (ge_of hg HB.out); replace HB := kB HB hb; clear hb hbox hg; have hz12 := cells_7 BK101.out) | ((with_reducible refine gate_callee (f := 54) rfl ?_); refine goL (some 5) rfl rfl gf54 #[.int .i64 a0_0, .int .i64 1, .int .i64 999999] rfl rfl ?_; (with_reducible refine (impl_within.calls a0_0 1 999999 true _ A2.out).mono ?_); rintro e w' ⟨rfl, ⟨nd, rfl⟩⟩; refine ⟨_, rfl, ?_⟩) | (go_at_call 69; (with_reducible refine (impl_DeltaOk.calls k _ _ l0_1 _ _ l0_2 a0_3 _ _ l0_4 true _ ?side1 ?side2 ?side3 ?side4 ?side5 ?side6 A4.out).mono ?_); (case side1 => repeat (first | exact (Kd.C_below HR0_1.out (bx HB.out)) | (with_reducible refine Kd.C_alloc ?_ _) | (with_reducible refine Kd.C_drewN ?_ _) | (with_reducible refine Kd.C_drew ?_))); (case side2 => exact HC0_1.out); (case side3 => repeat (first | exact (Kd.C_below HR0_2.out (bx HB.out)) | (with_reducible refine Kd.C_alloc ?_ _) | (with_reducible refine Kd.C_drewN ?_ _) | (with_reducible refine Kd.C_drew ?_))); (case side4 => exact HC0_2.out); (case side5 => repeat (first | exact (Kd.C_below HR0_4.out (bx HB.out)) | (with_reducible refine Kd.C_alloc ?_ _) | (with_reducible refine Kd.C_drewN ?_ _) | (with_reducible refine Kd.C_drew ?_))); (case side6 => exact HC0_4.out); rintro e w13 ⟨rfl, hb⟩; replace BK101 := kb BK101 hb; replace HB := kB HB hb; (try clear hb); (try clear hb2); (try clear hk); (try clear hi); have hz14 := cells_7 BK101.out) | (go_at_call 70; (with_reducible refine (impl_digits.calls a0_5 true _ A6.out).mono ?_); rintro e w15 ⟨rfl, hb⟩; replace BK101 := kb BK101 hb; replace HB := kB HB hb; (try clear hb); (try clear hb2); (try clear hk); (try clear hi); have hz16 := cells_7 BK101.out) | (go_at_call 70; (with_reducible refine (impl_digits.calls a0_6 true _ A8.out).mono ?_); rintro e w17 ⟨rfl, hb⟩; replace BK101 := kb BK101 hb; replace HB := kB HB hb; (try clear hb); (try clear hb2); (try clear hk); (try clear hi); have hz18 := cells_7 BK101.out) | (go_at_call 29; (with_reducible refine (impl_Release_text.calls k a0_0 _ _ l0_1 _ _ l0_2 a0_3 _ _ l0_4 a0_5 a0_6 t106 _ (GWp.below HGWp.out (bx HB.out)) (cx (Kd.C_below HR0_1.out HB.out)) HC0_1.out (cx (Kd.C_below HR0_2.out HB.out)) HC0_2.out (cx (Kd.C_below HR0_4.out HB.out)) HC0_4.out A10.out).mono ?_); rintro e w19 ⟨rfl, hb⟩; replace BK101 := kb BK101 hb; replace HB := kB HB hb; (try clear hb); (try clear hb2); (try clear hk); (try clear hi)))
     go_ret
     exact ⟨by rfl, bx HB.out⟩
    ·replace c9 := Bool.eq_false_iff.mpr c9
     subst c9
     rw [if_neg Bool.false_ne_true] at H
     obtain rfl := Option.some.inj H
     go_enter Tryz.func28, Tryz.ntmps28
     go_wp2_with (first | ((with_reducible refine gate_dst (N := 1) rfl ?_); (try (refine gate_guard (by rfl) ?_; dsimp only)); refine box_event rfl (N := 1) rfl (cs := #[.int .i64 a0_0, .slice A0_1 l0_1.length c0_1, .slice A0_2 l0_2.length c0_2, .bool a0_3, .slice A0_4 l0_4.length c0_4, .string a0_5, .string a0_6]) (t := 36) (by go_simp <;> rfl) ?_; intro gb101 hg w20 hbox hb; have BK101 := Aside0.mk (hbox); have GW101 := Le_.mk (ge_of hg HB.out); have GE101 := Le_.mk (ge_of hg HB.out); replace HB := kB HB hb; clear hb hbox hg; have hz21 := cells_7 BK101.out) | ((with_reducible refine gate_callee (f := 54) rfl ?_); refine goL (some 5) rfl rfl gf54 #[.int .i64 a0_0, .int .i64 1, .int .i64 999999] rfl rfl ?_; (with_reducible refine (impl_within.calls a0_0 1 999999 true _ A2.out).mono ?_); rintro e w' ⟨rfl, ⟨nd, rfl⟩⟩; refine ⟨_, rfl, ?_⟩) | (go_at_call 69; (with_reducible refine (impl_DeltaOk.calls k _ _ l0_1 _ _ l0_2 a0_3 _ _ l0_4 true _ ?side1 ?side2 ?side3 ?side4 ?side5 ?side6 A4.out).mono ?_); (case side1 => repeat (first | exact (Kd.C_below HR0_1.out (bx HB.out)) | (with_reducible refine Kd.C_alloc ?_ _) | (with_reducible refine Kd.C_drewN ?_ _) | (with_reducible refine Kd.C_drew ?_))); (case side2 => exact HC0_1.out); (case side3 => repeat (first | exact (Kd.C_below HR0_2.out (bx HB.out)) | (with_reducible refine Kd.C_alloc ?_ _) | (with_reducible refine Kd.C_drewN ?_ _) | (with_reducible refine Kd.C_drew ?_))); (case side4 => exact HC0_2.out); (case side5 => repeat (first | exact (Kd.C_below HR0_4.out (bx HB.out)) | (with_reducible refine Kd.C_alloc ?_ _) | (with_reducible refine Kd.C_drewN ?_ _) | (with_reducible refine Kd.C_drew ?_))); (case side6 => exact HC0_4.out); rintro e w22 ⟨rfl, hb⟩; replace BK101 := kb BK101 hb; replace HB := kB HB hb; (try clear hb); (try clear hb2); (try clear hk); (try clear hi); have hz23 := cells_7 BK101.out) | (go_at_call 70; (with_reducible refine (impl_digits.calls a0_5 true _ A6.out).mono ?_); rintro e w24 ⟨rfl, hb⟩; replace BK101 := kb BK101 hb; replace HB := kB HB hb; (try clear hb); (try clear hb2); (try clear hk); (try clear hi); have hz25 := cells_7 BK101.out) | (go_at_call 70; (with_reducible refine (impl_digits.calls a0_6 false _ A8.out).mono ?_); rintro e w26 ⟨rfl, hb⟩; replace BK101 := kb BK101 hb; replace HB := kB HB hb; (try clear hb); (try clear hb2); (try clear hk); (try clear hi)))
     go_ret
     exact ⟨by rfl, bx HB.out⟩
   ·replace c7 := Bool.eq_false_iff.mpr c7
    subst c7
    rw [if_neg Bool.false_ne_true] at H
    obtain rfl := Option.some.inj H
    go_enter Tryz.func28, Tryz.ntmps28
    go_wp2_with (first | ((with_reducible refine gate_dst (N := 1) rfl ?_); (try (refine gate_guard (by rfl) ?_; dsimp only)); refine box_event rfl (N := 1) rfl (cs := #[.int .i64 a0_0, .slice A0_1 l0_1.length c0_1, .slice A0_2 l0_2.length c0_2, .bool a0_3, .slice A0_4 l0_4.length c0_4, .string a0_5, .string a0_6]) (t := 36) (by go_simp <;> rfl) ?_; intro gb101 hg w27 hbox hb; have BK101 := Aside0.mk (hbox); have GW101 := Le_.mk (ge_of hg HB.out); have GE101 := Le_.mk (ge_of hg HB.out); replace HB := kB HB hb; clear hb hbox hg; have hz28 := cells_7 BK101.out) | ((with_reducible refine gate_callee (f := 54) rfl ?_); refine goL (some 5) rfl rfl gf54 #[.int .i64 a0_0, .int .i64 1, .int .i64 999999] rfl rfl ?_; (with_reducible refine (impl_within.calls a0_0 1 999999 true _ A2.out).mono ?_); rintro e w' ⟨rfl, ⟨nd, rfl⟩⟩; refine ⟨_, rfl, ?_⟩) | (go_at_call 69; (with_reducible refine (impl_DeltaOk.calls k _ _ l0_1 _ _ l0_2 a0_3 _ _ l0_4 true _ ?side1 ?side2 ?side3 ?side4 ?side5 ?side6 A4.out).mono ?_); (case side1 => repeat (first | exact (Kd.C_below HR0_1.out (bx HB.out)) | (with_reducible refine Kd.C_alloc ?_ _) | (with_reducible refine Kd.C_drewN ?_ _) | (with_reducible refine Kd.C_drew ?_))); (case side2 => exact HC0_1.out); (case side3 => repeat (first | exact (Kd.C_below HR0_2.out (bx HB.out)) | (with_reducible refine Kd.C_alloc ?_ _) | (with_reducible refine Kd.C_drewN ?_ _) | (with_reducible refine Kd.C_drew ?_))); (case side4 => exact HC0_2.out); (case side5 => repeat (first | exact (Kd.C_below HR0_4.out (bx HB.out)) | (with_reducible refine Kd.C_alloc ?_ _) | (with_reducible refine Kd.C_drewN ?_ _) | (with_reducible refine Kd.C_drew ?_))); (case side6 => exact HC0_4.out); rintro e w29 ⟨rfl, hb⟩; replace BK101 := kb BK101 hb; replace HB := kB HB hb; (try clear hb); (try clear hb2); (try clear hk); (try clear hi); have hz30 := cells_7 BK101.out) | (go_at_call 70; (with_reducible refine (impl_digits.calls a0_5 false _ A6.out).mono ?_); rintro e w31 ⟨rfl, hb⟩; replace BK101 := kb BK101 hb; replace HB := kB HB hb; (try clear hb); (try clear hb2); (try clear hk); (try clear hi)))
    go_ret
    exact ⟨by rfl, bx HB.out⟩
  ·replace c5 := Bool.eq_false_iff.mpr c5
   subst c5
   rw [if_neg Bool.false_ne_true] at H
   obtain rfl := Option.some.inj H
   go_enter Tryz.func28, Tryz.ntmps28
   go_wp2_with (first | ((with_reducible refine gate_dst (N := 1) rfl ?_); (try (refine gate_guard (by rfl) ?_; dsimp only)); refine box_event rfl (N := 1) rfl (cs := #[.int .i64 a0_0, .slice A0_1 l0_1.length c0_1, .slice A0_2 l0_2.length c0_2, .bool a0_3, .slice A0_4 l0_4.length c0_4, .string a0_5, .string a0_6]) (t := 36) (by go_simp <;> rfl) ?_; intro gb101 hg w32 hbox hb; have BK101 := Aside0.mk (hbox); have GW101 := Le_.mk (ge_of hg HB.out); have GE101 := Le_.mk (ge_of hg HB.out); replace HB := kB HB hb; clear hb hbox hg; have hz33 := cells_7 BK101.out) | ((with_reducible refine gate_callee (f := 54) rfl ?_); refine goL (some 5) rfl rfl gf54 #[.int .i64 a0_0, .int .i64 1, .int .i64 999999] rfl rfl ?_; (with_reducible refine (impl_within.calls a0_0 1 999999 true _ A2.out).mono ?_); rintro e w' ⟨rfl, ⟨nd, rfl⟩⟩; refine ⟨_, rfl, ?_⟩) | (go_at_call 69; (with_reducible refine (impl_DeltaOk.calls k _ _ l0_1 _ _ l0_2 a0_3 _ _ l0_4 false _ ?side1 ?side2 ?side3 ?side4 ?side5 ?side6 A4.out).mono ?_); (case side1 => repeat (first | exact (Kd.C_below HR0_1.out (bx HB.out)) | (with_reducible refine Kd.C_alloc ?_ _) | (with_reducible refine Kd.C_drewN ?_ _) | (with_reducible refine Kd.C_drew ?_))); (case side2 => exact HC0_1.out); (case side3 => repeat (first | exact (Kd.C_below HR0_2.out (bx HB.out)) | (with_reducible refine Kd.C_alloc ?_ _) | (with_reducible refine Kd.C_drewN ?_ _) | (with_reducible refine Kd.C_drew ?_))); (case side4 => exact HC0_2.out); (case side5 => repeat (first | exact (Kd.C_below HR0_4.out (bx HB.out)) | (with_reducible refine Kd.C_alloc ?_ _) | (with_reducible refine Kd.C_drewN ?_ _) | (with_reducible refine Kd.C_drew ?_))); (case side6 => exact HC0_4.out); rintro e w34 ⟨rfl, hb⟩; replace BK101 := kb BK101 hb; replace HB := kB HB hb; (try clear hb); (try clear hb2); (try clear hk); (try clear hi)))
   go_ret
   exact ⟨by rfl, bx HB.out⟩
 ·replace c3 := Bool.eq_false_iff.mpr c3
  subst c3
  rw [if_neg Bool.false_ne_true] at H
  obtain rfl := Option.some.inj H
  go_enter Tryz.func28, Tryz.ntmps28
  go_wp2_with (first | ((with_reducible refine gate_dst (N := 1) rfl ?_); (try (refine gate_guard (by rfl) ?_; dsimp only)); refine box_event rfl (N := 1) rfl (cs := #[.int .i64 a0_0, .slice A0_1 l0_1.length c0_1, .slice A0_2 l0_2.length c0_2, .bool a0_3, .slice A0_4 l0_4.length c0_4, .string a0_5, .string a0_6]) (t := 36) (by go_simp <;> rfl) ?_; intro gb101 hg w35 hbox hb; have BK101 := Aside0.mk (hbox); have GW101 := Le_.mk (ge_of hg HB.out); have GE101 := Le_.mk (ge_of hg HB.out); replace HB := kB HB hb; clear hb hbox hg; have hz36 := cells_7 BK101.out) | ((with_reducible refine gate_callee (f := 54) rfl ?_); refine goL (some 5) rfl rfl gf54 #[.int .i64 a0_0, .int .i64 1, .int .i64 999999] rfl rfl ?_; (with_reducible refine (impl_within.calls a0_0 1 999999 false _ A2.out).mono ?_); rintro e w' ⟨rfl, ⟨nd, rfl⟩⟩; refine ⟨_, rfl, ?_⟩))
  go_ret
  exact ⟨by rfl, bx HB.out⟩
theorem gf13 : Go_ Tryz.prog 13 Tryz.f13 := ⟨Tryz.func13, by kernel_rfl, rfl⟩
def impl_ReleaseOk.f (k : Nat) (a0 : ByteArray) (a1_0 : Int) (l1_1 : List ByteArray) (l1_2 : List (S100)) (a1_3 : Bool) (l1_4 : List (S103)) (a1_5 : ByteArray) (a1_6 : ByteArray) : Option (Bool) := (impl_keyOk.f a0).bind fun t102 => (if t102 = true then ((impl_Release_wellFormed.f k a1_0 l1_1 l1_2 a1_3 l1_4 a1_5 a1_6).bind fun t103 => (if t103 = true then ((impl_Release_text.f k a1_0 l1_1 l1_2 a1_3 l1_4 a1_5 a1_6).bind fun t104 => ((impl_SealOf.f k a0 t104).bind fun t105 => (some (a1_6.toList == t105.toList)))) else (some false))) else (some false))
theorem impl_ReleaseOk.mono : ∀ a0 a1 a2 a3 a4 a5 a6 a7 k, LeO (impl_ReleaseOk.f k a0 a1 a2 a3 a4 a5 a6 a7) (impl_ReleaseOk.f (k + 1) a0 a1 a2 a3 a4 a5 a6 a7) := by
 intro a0 a1 a2 a3 a4 a5 a6 a7 k
 unfold impl_ReleaseOk.f
 have I0_ := fun a b c d e f g h => LeC.mk (impl_Release_text.mono a b c d e f g h)
 have I1_ := fun a b c d e f g h => LeC.mk (impl_Release_wellFormed.mono a b c d e f g h)
 have I2_ := fun a b c => LeC.mk (impl_SealOf.mono a b c)
 exact LeC.out
def impl_ReleaseOk.T1 : Bool × List (List Nat × List Nat) := (true, [([], []), ([0], [0]), ([1, 1], [1]), ([2], [2]), ([3, 2, 2], [2, 3]), ([2, 4], [2, 4]), ([5, 4], [5]), ([6], [6]), ([7, 6], [6, 7]), ([6], [6]), ([6], [6]), ([10, 6, 6], [6, 10]), ([9, 11, 11, 6], [6, 9, 11]), ([8, 12, 6], [6, 8, 12]), ([6, 13], [6, 13]), ([14, 12, 0, 1, 2, 3, 4, 5, 6, 7, 8, 9, 10, 11, 12, 13, 14], [14])])
def impl_ReleaseOk.B1 : List Nat := [0, 1, 3, 7, 15, 31, 63, 127, 255, 127, 127, 1151, 3711, 8191, 16383, 32767]
theorem impl_ReleaseOk.tab1 : rtab .any (opsOf Tryz.f13 1) = impl_ReleaseOk.T1 := by kernel_rfl
theorem impl_ReleaseOk.bits1 : waitsOk impl_ReleaseOk.T1.2 impl_ReleaseOk.B1 = true := by kernel_rfl
theorem impl_ReleaseOk.calls (k : Nat) (a0 : ByteArray) (a1_0 : Int) (A1_1 : Option Addr) (c1_1 : Nat) (l1_1 : List ByteArray) (A1_2 : Option Addr) (c1_2 : Nat) (l1_2 : List (S100)) (a1_3 : Bool) (A1_4 : Option Addr) (c1_4 : Nat) (l1_4 : List (S103)) (a1_5 : ByteArray) (a1_6 : ByteArray) (r : Bool) (w : World) (hGp : GWp w) (hGs : GWs w) (hr1_1 : Kd.C Kd.string w A1_1 l1_1.length l1_1) (hc1_1 : l1_1.length ≤ c1_1) (hr1_2 : Kd.C k100 w A1_2 l1_2.length l1_2) (hc1_2 : l1_2.length ≤ c1_2) (hr1_4 : Kd.C k103 w A1_4 l1_4.length l1_4) (hc1_4 : l1_4.length ≤ c1_4) (h : impl_ReleaseOk.f k a0 a1_0 l1_1 l1_2 a1_3 l1_4 a1_5 a1_6 = some r) :
  Calls Tryz.prog 13 #[.string a0, .agg #[.int .i64 a1_0, .slice A1_1 l1_1.length c1_1, .slice A1_2 l1_2.length c1_2, .bool a1_3, .slice A1_4 l1_4.length c1_4, .string a1_5, .string a1_6]] w fun e w' => e = .returned (.bool r) ∧ Below w.heap.size w w' := by
 have hu36 := Tryz.underlying36
 have HGWp := Aside0.mk hGp
 clear hGp
 have HGWs := Aside0.mk hGs
 clear hGs
 have HR1_1 := Aside0.mk hr1_1
 have HC1_1 := Aside0.mk hc1_1
 clear hr1_1 hc1_1
 have HR1_2 := Aside0.mk hr1_2
 have HC1_2 := Aside0.mk hc1_2
 clear hr1_2 hc1_2
 have HR1_4 := Aside0.mk hr1_4
 have HC1_4 := Aside0.mk hc1_4
 clear hr1_4 hc1_4
 have HB := Aside0.mk (Below.refl w.heap.size w)
 unfold impl_ReleaseOk.f at h
 have H := h
 clear h
 replace H := Option.bind_eq_some_iff.mp H
 obtain ⟨t102, A30, H⟩ := H
 have A3 := Aside0.mk A30
 clear A30
 by_cases c4 : t102 = true
 ·subst c4
  rw [if_pos rfl] at H
  replace H := Option.bind_eq_some_iff.mp H
  obtain ⟨t103, A50, H⟩ := H
  have A5 := Aside0.mk A50
  clear A50
  by_cases c6 : t103 = true
  ·subst c6
   rw [if_pos rfl] at H
   replace H := Option.bind_eq_some_iff.mp H
   obtain ⟨t104, A70, H⟩ := H
   have A7 := Aside0.mk A70
   clear A70
   replace H := Option.bind_eq_some_iff.mp H
   obtain ⟨t105, A80, H⟩ := H
   have A8 := Aside0.mk A80
   clear A80
   obtain rfl := Option.some.inj H
   go_enter Tryz.func13, Tryz.ntmps13
   try go_wp2_with (first | ((with_reducible refine gate_dst (N := 3) rfl ?_); refine box_event rfl (N := 3) rfl (cs := #[.int .i64 a1_0, .slice A1_1 l1_1.length c1_1, .slice A1_2 l1_2.length c1_2, .bool a1_3, .slice A1_4 l1_4.length c1_4, .string a1_5, .string a1_6]) (t := 36) (by go_simp <;> rfl) ?_; intro gb101 hg w9 hbox hb; have BK101 := Aside0.mk (hbox); have GW101 := Le_.mk (ge_of hg HB.out); have GE101 := Le_.mk (ge_of hg HB.out); replace HB := kB HB hb; clear hb hbox hg))
   replace BK101 := Aside0.mk (blk_drew BK101.out)
   replace HB := Aside0.mk (below_drew1 HB.out)
   refine start_ (n := 16) (S := fun w' => w'.cell? ⟨gb101, 0, none⟩ = some (.int .i64 a1_0) ∧ w'.cell? ⟨gb101, 1, none⟩ = some (.slice A1_1 l1_1.length c1_1) ∧ w'.cell? ⟨gb101, 2, none⟩ = some (.slice A1_2 l1_2.length c1_2) ∧ w'.cell? ⟨gb101, 3, none⟩ = some (.bool a1_3) ∧ w'.cell? ⟨gb101, 4, none⟩ = some (.slice A1_4 l1_4.length c1_4) ∧ w'.cell? ⟨gb101, 5, none⟩ = some (.string a1_5) ∧ w'.cell? ⟨gb101, 6, none⟩ = some (.string a1_6)) (ds := []) _ (by kernel_rfl) rfl rfl ⟨(blk_cell BK101.out 0).trans rfl, (blk_cell BK101.out 1).trans rfl, (blk_cell BK101.out 2).trans rfl, (blk_cell BK101.out 3).trans rfl, (blk_cell BK101.out 4).trans rfl, (blk_cell BK101.out 5).trans rfl, (blk_cell BK101.out 6).trans rfl⟩ (fun hHeld => ?_); refine with_tabW impl_ReleaseOk.tab1 impl_ReleaseOk.bits1 (fun HT_ HW_ => ?_)
   generalize w9.drew = w10 at BK101 HB hHeld ⊢
   refine ord_ [.p 0 5] ?_
   repeat (refine pu_ (v := ?_) (a' := ?_) HT_ rfl rfl (by kernel_rfl) (fun _ _ _ h => h) (by rfl) ?_ ?_ ?_; rotate_left 2; (intro w'; go_simp; with_reducible rfl); (simp only [Act.put, List.setIfInBounds_toArray, List.set_cons_zero, List.set_cons_succ, i64_w, i32_w]; rfl))
   refine ord0 ?_
   refine on_ (i := 1) (N := some 6) HT_ rfl rfl (by kernel_rfl) (by decide) (fun K hK => ?_)
   refine goM gf33 #[.string a0] (by rfl) rfl rfl rfl ?_
   with_reducible refine (impl_keyOk.calls a0 true _ A3.out).mono ?_
   rintro e w' ⟨rfl, ⟨nd, rfl⟩⟩
   refine ⟨_, rfl, ?_⟩
   refine hK.out _ _ ⟨(blk_cell BK101.out 0).trans rfl, (blk_cell BK101.out 1).trans rfl, (blk_cell BK101.out 2).trans rfl, (blk_cell BK101.out 3).trans rfl, (blk_cell BK101.out 4).trans rfl, (blk_cell BK101.out 5).trans rfl, (blk_cell BK101.out 6).trans rfl⟩ (fun hHeld => ?_)
   clear hK K
   refine norm_ (a' := ?_) ?_ ?_
   rotate_left
   ·show Act.put _ (some 6) _ = _
    simp only [Act.put, List.setIfInBounds_toArray, List.set_cons_zero, List.set_cons_succ, i64_w, i32_w]
    rfl
   refine ord_ [.p 2 7, .t 3 8] ?_
   repeat (first | (refine pu_ (v := ?_) (a' := ?_) HT_ rfl rfl (by kernel_rfl) (fun _ _ _ h => h) (by rfl) ?_ ?_ ?_; rotate_left 2; (intro w'; go_simp; with_reducible rfl); (simp only [Act.put, List.setIfInBounds_toArray, List.set_cons_zero, List.set_cons_succ, i64_w, i32_w]; rfl)) | (refine ta_ (v := ?_) (a' := ?_) HT_ HW_ rfl rfl (by kernel_rfl) (fun _ _ _ h => h) (by rfl) hHeld ?_ ?_ ?_; rotate_left 2; (rintro w' ⟨s0, s1, s2, s3, s4, s5, s6⟩; go_simp; with_reducible rfl); (simp only [Act.put, List.setIfInBounds_toArray, List.set_cons_zero, List.set_cons_succ, i64_w, i32_w]; rfl)))
   refine ord0 ?_
   refine on_ (i := 4) (N := some 9) HT_ rfl rfl (by kernel_rfl) (by decide) (fun K hK => ?_)
   refine goM gf28 #[.agg #[.int .i64 a1_0, .slice A1_1 l1_1.length c1_1, .slice A1_2 l1_2.length c1_2, .bool a1_3, .slice A1_4 l1_4.length c1_4, .string a1_5, .string a1_6]] (by rfl) rfl rfl rfl ?_
   with_reducible refine (impl_Release_wellFormed.calls k a1_0 _ _ l1_1 _ _ l1_2 a1_3 _ _ l1_4 a1_5 a1_6 true _ ?side1 ?side2 ?side3 ?side4 ?side5 ?side6 ?side7 A5.out).mono ?_
   (case side1 => exact GWp.below HGWp.out (bx HB.out))
   (case side2 => repeat (first | exact (Kd.C_below HR1_1.out (bx HB.out)) | (with_reducible refine Kd.C_alloc ?_ _) | (with_reducible refine Kd.C_drewN ?_ _) | (with_reducible refine Kd.C_drew ?_)))
   (case side3 => exact HC1_1.out)
   (case side4 => repeat (first | exact (Kd.C_below HR1_2.out (bx HB.out)) | (with_reducible refine Kd.C_alloc ?_ _) | (with_reducible refine Kd.C_drewN ?_ _) | (with_reducible refine Kd.C_drew ?_)))
   (case side5 => exact HC1_2.out)
   (case side6 => repeat (first | exact (Kd.C_below HR1_4.out (bx HB.out)) | (with_reducible refine Kd.C_alloc ?_ _) | (with_reducible refine Kd.C_drewN ?_ _) | (with_reducible refine Kd.C_drew ?_)))
   (case side7 => exact HC1_4.out)
   rintro e w11 ⟨rfl, hb⟩
   refine ⟨_, rfl, ?_⟩
   replace BK101 := kb BK101 hb
   replace HB := kB HB hb
   (try clear hb)
   (try clear hb2)
   (try clear hk)
   (try clear hi)
   refine hK.out _ _ ⟨(blk_cell BK101.out 0).trans rfl, (blk_cell BK101.out 1).trans rfl, (blk_cell BK101.out 2).trans rfl, (blk_cell BK101.out 3).trans rfl, (blk_cell BK101.out 4).trans rfl, (blk_cell BK101.out 5).trans rfl, (blk_cell BK101.out 6).trans rfl⟩ (fun hHeld => ?_)
   clear hK K
   refine norm_ (a' := ?_) ?_ ?_
   rotate_left
   ·show Act.put _ (some 9) _ = _
    simp only [Act.put, List.setIfInBounds_toArray, List.set_cons_zero, List.set_cons_succ, i64_w, i32_w]
    rfl
   refine ord_ [.p 5 10, .p 6 11, .p 7 12, .p 9 14, .t 8 13, .t 10 15] ?_
   repeat (first | (refine pu_ (v := ?_) (a' := ?_) HT_ rfl rfl (by kernel_rfl) (fun _ _ _ h => h) (by rfl) ?_ ?_ ?_; rotate_left 2; (intro w'; go_simp; with_reducible rfl); (simp only [Act.put, List.setIfInBounds_toArray, List.set_cons_zero, List.set_cons_succ, i64_w, i32_w]; rfl)) | (refine ta_ (v := ?_) (a' := ?_) HT_ HW_ rfl rfl (by kernel_rfl) (fun _ _ _ h => h) (by rfl) hHeld ?_ ?_ ?_; rotate_left 2; (rintro w' ⟨s0, s1, s2, s3, s4, s5, s6⟩; go_simp; with_reducible rfl); (simp only [Act.put, List.setIfInBounds_toArray, List.set_cons_zero, List.set_cons_succ, i64_w, i32_w]; rfl)))
   refine ord0 ?_
   refine on_ (i := 11) (N := some 16) HT_ rfl rfl (by kernel_rfl) (by decide) (fun K hK => ?_)
   refine goM gf29 #[.agg #[.int .i64 a1_0, .slice A1_1 l1_1.length c1_1, .slice A1_2 l1_2.length c1_2, .bool a1_3, .slice A1_4 l1_4.length c1_4, .string a1_5, .string a1_6]] (by rfl) rfl rfl rfl ?_
   with_reducible refine (impl_Release_text.calls k a1_0 _ _ l1_1 _ _ l1_2 a1_3 _ _ l1_4 a1_5 a1_6 t104 _ ?side1 ?side2 ?side3 ?side4 ?side5 ?side6 ?side7 A7.out).mono ?_
   (case side1 => exact GWp.below HGWp.out (bx HB.out))
   (case side2 => exact cx (Kd.C_below HR1_1.out HB.out))
   (case side3 => exact HC1_1.out)
   (case side4 => exact cx (Kd.C_below HR1_2.out HB.out))
   (case side5 => exact HC1_2.out)
   (case side6 => exact cx (Kd.C_below HR1_4.out HB.out))
   (case side7 => exact HC1_4.out)
   rintro e w12 ⟨rfl, hb⟩
   refine ⟨_, rfl, ?_⟩
   replace BK101 := kb BK101 hb
   replace HB := kB HB hb
   (try clear hb)
   (try clear hb2)
   (try clear hk)
   (try clear hi)
   refine hK.out _ _ ⟨(blk_cell BK101.out 0).trans rfl, (blk_cell BK101.out 1).trans rfl, (blk_cell BK101.out 2).trans rfl, (blk_cell BK101.out 3).trans rfl, (blk_cell BK101.out 4).trans rfl, (blk_cell BK101.out 5).trans rfl, (blk_cell BK101.out 6).trans rfl⟩ (fun hHeld => ?_)
   clear hK K
   refine norm_ (a' := ?_) ?_ ?_
   rotate_left
   ·show Act.put _ (some 16) _ = _
    simp only [Act.put, List.setIfInBounds_toArray, List.set_cons_zero, List.set_cons_succ, i64_w, i32_w]
    rfl
   refine on_ (i := 12) (N := some 17) HT_ rfl rfl (by kernel_rfl) (by decide) (fun K hK => ?_)
   refine goM gf34 #[.string a0, .string t104] (by rfl) rfl rfl rfl ?_
   with_reducible refine (impl_SealOf.calls k a0 t104 t105 _ ?side1 A8.out).mono ?_
   (case side1 => exact GWs.below HGWs.out (bx HB.out))
   rintro e w13 ⟨rfl, hb⟩
   refine ⟨_, rfl, ?_⟩
   replace BK101 := kb BK101 hb
   replace HB := kB HB hb
   (try clear hb)
   (try clear hb2)
   (try clear hk)
   (try clear hi)
   refine hK.out _ _ ⟨(blk_cell BK101.out 0).trans rfl, (blk_cell BK101.out 1).trans rfl, (blk_cell BK101.out 2).trans rfl, (blk_cell BK101.out 3).trans rfl, (blk_cell BK101.out 4).trans rfl, (blk_cell BK101.out 5).trans rfl, (blk_cell BK101.out 6).trans rfl⟩ (fun hHeld => ?_)
   clear hK K
   refine norm_ (a' := ?_) ?_ ?_
   rotate_left
   ·show Act.put _ (some 17) _ = _
    simp only [Act.put, List.setIfInBounds_toArray, List.set_cons_zero, List.set_cons_succ, i64_w, i32_w]
    rfl
   refine ord_ [.p 13 18, .p 14 19, .p 15 4] ?_
   repeat (refine pu_ (v := ?_) (a' := ?_) HT_ rfl rfl (by kernel_rfl) (fun _ _ _ h => h) (by rfl) ?_ ?_ ?_; rotate_left 2; (intro w'; go_simp; with_reducible rfl); (simp only [Act.put, List.setIfInBounds_toArray, List.set_cons_zero, List.set_cons_succ, i64_w, i32_w]; rfl))
   refine ord0 ?_
   refine done_ (done_of HT_.out (by kernel_rfl)) ?_
   try go_wp2
   go_ret
   exact ⟨by rfl, bx HB.out⟩
  ·replace c6 := Bool.eq_false_iff.mpr c6
   subst c6
   rw [if_neg Bool.false_ne_true] at H
   obtain rfl := Option.some.inj H
   go_enter Tryz.func13, Tryz.ntmps13
   try go_wp2_with (first | ((with_reducible refine gate_dst (N := 3) rfl ?_); refine box_event rfl (N := 3) rfl (cs := #[.int .i64 a1_0, .slice A1_1 l1_1.length c1_1, .slice A1_2 l1_2.length c1_2, .bool a1_3, .slice A1_4 l1_4.length c1_4, .string a1_5, .string a1_6]) (t := 36) (by go_simp <;> rfl) ?_; intro gb101 hg w14 hbox hb; have BK101 := Aside0.mk (hbox); have GW101 := Le_.mk (ge_of hg HB.out); have GE101 := Le_.mk (ge_of hg HB.out); replace HB := kB HB hb; clear hb hbox hg))
   replace BK101 := Aside0.mk (blk_drew BK101.out)
   replace HB := Aside0.mk (below_drew1 HB.out)
   refine start_ (n := 16) (S := fun w' => w'.cell? ⟨gb101, 0, none⟩ = some (.int .i64 a1_0) ∧ w'.cell? ⟨gb101, 1, none⟩ = some (.slice A1_1 l1_1.length c1_1) ∧ w'.cell? ⟨gb101, 2, none⟩ = some (.slice A1_2 l1_2.length c1_2) ∧ w'.cell? ⟨gb101, 3, none⟩ = some (.bool a1_3) ∧ w'.cell? ⟨gb101, 4, none⟩ = some (.slice A1_4 l1_4.length c1_4) ∧ w'.cell? ⟨gb101, 5, none⟩ = some (.string a1_5) ∧ w'.cell? ⟨gb101, 6, none⟩ = some (.string a1_6)) (ds := []) _ (by kernel_rfl) rfl rfl ⟨(blk_cell BK101.out 0).trans rfl, (blk_cell BK101.out 1).trans rfl, (blk_cell BK101.out 2).trans rfl, (blk_cell BK101.out 3).trans rfl, (blk_cell BK101.out 4).trans rfl, (blk_cell BK101.out 5).trans rfl, (blk_cell BK101.out 6).trans rfl⟩ (fun hHeld => ?_); refine with_tabW impl_ReleaseOk.tab1 impl_ReleaseOk.bits1 (fun HT_ HW_ => ?_)
   generalize w14.drew = w15 at BK101 HB hHeld ⊢
   refine ord_ [.p 0 5] ?_
   repeat (refine pu_ (v := ?_) (a' := ?_) HT_ rfl rfl (by kernel_rfl) (fun _ _ _ h => h) (by rfl) ?_ ?_ ?_; rotate_left 2; (intro w'; go_simp; with_reducible rfl); (simp only [Act.put, List.setIfInBounds_toArray, List.set_cons_zero, List.set_cons_succ, i64_w, i32_w]; rfl))
   refine ord0 ?_
   refine on_ (i := 1) (N := some 6) HT_ rfl rfl (by kernel_rfl) (by decide) (fun K hK => ?_)
   refine goM gf33 #[.string a0] (by rfl) rfl rfl rfl ?_
   with_reducible refine (impl_keyOk.calls a0 true _ A3.out).mono ?_
   rintro e w' ⟨rfl, ⟨nd, rfl⟩⟩
   refine ⟨_, rfl, ?_⟩
   refine hK.out _ _ ⟨(blk_cell BK101.out 0).trans rfl, (blk_cell BK101.out 1).trans rfl, (blk_cell BK101.out 2).trans rfl, (blk_cell BK101.out 3).trans rfl, (blk_cell BK101.out 4).trans rfl, (blk_cell BK101.out 5).trans rfl, (blk_cell BK101.out 6).trans rfl⟩ (fun hHeld => ?_)
   clear hK K
   refine norm_ (a' := ?_) ?_ ?_
   rotate_left
   ·show Act.put _ (some 6) _ = _
    simp only [Act.put, List.setIfInBounds_toArray, List.set_cons_zero, List.set_cons_succ, i64_w, i32_w]
    rfl
   refine ord_ [.p 2 7, .t 3 8] ?_
   repeat (first | (refine pu_ (v := ?_) (a' := ?_) HT_ rfl rfl (by kernel_rfl) (fun _ _ _ h => h) (by rfl) ?_ ?_ ?_; rotate_left 2; (intro w'; go_simp; with_reducible rfl); (simp only [Act.put, List.setIfInBounds_toArray, List.set_cons_zero, List.set_cons_succ, i64_w, i32_w]; rfl)) | (refine ta_ (v := ?_) (a' := ?_) HT_ HW_ rfl rfl (by kernel_rfl) (fun _ _ _ h => h) (by rfl) hHeld ?_ ?_ ?_; rotate_left 2; (rintro w' ⟨s0, s1, s2, s3, s4, s5, s6⟩; go_simp; with_reducible rfl); (simp only [Act.put, List.setIfInBounds_toArray, List.set_cons_zero, List.set_cons_succ, i64_w, i32_w]; rfl)))
   refine ord0 ?_
   refine on_ (i := 4) (N := some 9) HT_ rfl rfl (by kernel_rfl) (by decide) (fun K hK => ?_)
   refine goM gf28 #[.agg #[.int .i64 a1_0, .slice A1_1 l1_1.length c1_1, .slice A1_2 l1_2.length c1_2, .bool a1_3, .slice A1_4 l1_4.length c1_4, .string a1_5, .string a1_6]] (by rfl) rfl rfl rfl ?_
   with_reducible refine (impl_Release_wellFormed.calls k a1_0 _ _ l1_1 _ _ l1_2 a1_3 _ _ l1_4 a1_5 a1_6 false _ ?side1 ?side2 ?side3 ?side4 ?side5 ?side6 ?side7 A5.out).mono ?_
   (case side1 => exact GWp.below HGWp.out (bx HB.out))
   (case side2 => repeat (first | exact (Kd.C_below HR1_1.out (bx HB.out)) | (with_reducible refine Kd.C_alloc ?_ _) | (with_reducible refine Kd.C_drewN ?_ _) | (with_reducible refine Kd.C_drew ?_)))
   (case side3 => exact HC1_1.out)
   (case side4 => repeat (first | exact (Kd.C_below HR1_2.out (bx HB.out)) | (with_reducible refine Kd.C_alloc ?_ _) | (with_reducible refine Kd.C_drewN ?_ _) | (with_reducible refine Kd.C_drew ?_)))
   (case side5 => exact HC1_2.out)
   (case side6 => repeat (first | exact (Kd.C_below HR1_4.out (bx HB.out)) | (with_reducible refine Kd.C_alloc ?_ _) | (with_reducible refine Kd.C_drewN ?_ _) | (with_reducible refine Kd.C_drew ?_)))
   (case side7 => exact HC1_4.out)
   rintro e w16 ⟨rfl, hb⟩
   refine ⟨_, rfl, ?_⟩
   replace BK101 := kb BK101 hb
   replace HB := kB HB hb
   (try clear hb)
   (try clear hb2)
   (try clear hk)
   (try clear hi)
   refine hK.out _ _ ⟨(blk_cell BK101.out 0).trans rfl, (blk_cell BK101.out 1).trans rfl, (blk_cell BK101.out 2).trans rfl, (blk_cell BK101.out 3).trans rfl, (blk_cell BK101.out 4).trans rfl, (blk_cell BK101.out 5).trans rfl, (blk_cell BK101.out 6).trans rfl⟩ (fun hHeld => ?_)
   clear hK K
   refine norm_ (a' := ?_) ?_ ?_
   rotate_left
   ·show Act.put _ (some 9) _ = _
    simp only [Act.put, List.setIfInBounds_toArray, List.set_cons_zero, List.set_cons_succ, i64_w, i32_w]
    rfl
   refine ord_ [.p 5 10, .p 6 11, .u 7 12, .u 8 13, .u 9 14, .u 10 15, .u 11 16, .u 12 17, .u 13 18, .p 14 19, .p 15 4] ?_
   repeat (first | (refine pu_ (v := ?_) (a' := ?_) HT_ rfl rfl (by kernel_rfl) (fun _ _ _ h => h) (by rfl) ?_ ?_ ?_; rotate_left 2; (intro w'; go_simp; with_reducible rfl); (simp only [Act.put, List.setIfInBounds_toArray, List.set_cons_zero, List.set_cons_succ, i64_w, i32_w]; rfl)) | (refine un_ (a' := ?_) HT_ rfl rfl (by kernel_rfl) (fun _ _ _ h => h) (by rfl) ?_ ?_; rotate_left; (simp only [Act.put, List.setIfInBounds_toArray, List.set_cons_zero, List.set_cons_succ, i64_w, i32_w]; rfl)))
   refine ord0 ?_
   refine done_ (done_of HT_.out (by kernel_rfl)) ?_
   try go_wp2
   go_ret
   exact ⟨by rfl, bx HB.out⟩
 ·replace c4 := Bool.eq_false_iff.mpr c4
  subst c4
  rw [if_neg Bool.false_ne_true] at H
  obtain rfl := Option.some.inj H
  go_enter Tryz.func13, Tryz.ntmps13
  try go_wp2_with (first | ((with_reducible refine gate_dst (N := 3) rfl ?_); refine box_event rfl (N := 3) rfl (cs := #[.int .i64 a1_0, .slice A1_1 l1_1.length c1_1, .slice A1_2 l1_2.length c1_2, .bool a1_3, .slice A1_4 l1_4.length c1_4, .string a1_5, .string a1_6]) (t := 36) (by go_simp <;> rfl) ?_; intro gb101 hg w17 hbox hb; have BK101 := Aside0.mk (hbox); have GW101 := Le_.mk (ge_of hg HB.out); have GE101 := Le_.mk (ge_of hg HB.out); replace HB := kB HB hb; clear hb hbox hg))
  replace BK101 := Aside0.mk (blk_drew BK101.out)
  replace HB := Aside0.mk (below_drew1 HB.out)
  refine start_ (n := 16) (S := fun w' => True) (ds := []) _ (by kernel_rfl) rfl rfl trivial (fun hHeld => ?_); refine with_tabW impl_ReleaseOk.tab1 impl_ReleaseOk.bits1 (fun HT_ HW_ => ?_)
  generalize w17.drew = w18 at BK101 HB hHeld ⊢
  refine ord_ [.p 0 5] ?_
  repeat (refine pu_ (v := ?_) (a' := ?_) HT_ rfl rfl (by kernel_rfl) (fun _ _ _ h => h) (by rfl) ?_ ?_ ?_; rotate_left 2; (intro w'; go_simp; with_reducible rfl); (simp only [Act.put, List.setIfInBounds_toArray, List.set_cons_zero, List.set_cons_succ, i64_w, i32_w]; rfl))
  refine ord0 ?_
  refine on_ (i := 1) (N := some 6) HT_ rfl rfl (by kernel_rfl) (by decide) (fun K hK => ?_)
  refine goM gf33 #[.string a0] (by rfl) rfl rfl rfl ?_
  with_reducible refine (impl_keyOk.calls a0 false _ A3.out).mono ?_
  rintro e w' ⟨rfl, ⟨nd, rfl⟩⟩
  refine ⟨_, rfl, ?_⟩
  refine hK.out _ _ trivial (fun hHeld => ?_)
  clear hK K
  refine norm_ (a' := ?_) ?_ ?_
  rotate_left
  ·show Act.put _ (some 6) _ = _
   simp only [Act.put, List.setIfInBounds_toArray, List.set_cons_zero, List.set_cons_succ, i64_w, i32_w]
   rfl
  refine ord_ [.p 2 7, .u 3 8, .u 4 9, .p 5 10, .p 6 11, .u 7 12, .u 8 13, .u 9 14, .u 10 15, .u 11 16, .u 12 17, .u 13 18, .p 14 19, .p 15 4] ?_
  repeat (first | (refine pu_ (v := ?_) (a' := ?_) HT_ rfl rfl (by kernel_rfl) (fun _ _ _ h => h) (by rfl) ?_ ?_ ?_; rotate_left 2; (intro w'; go_simp; with_reducible rfl); (simp only [Act.put, List.setIfInBounds_toArray, List.set_cons_zero, List.set_cons_succ, i64_w, i32_w]; rfl)) | (refine un_ (a' := ?_) HT_ rfl rfl (by kernel_rfl) (fun _ _ _ h => h) (by rfl) ?_ ?_; rotate_left; (simp only [Act.put, List.setIfInBounds_toArray, List.set_cons_zero, List.set_cons_succ, i64_w, i32_w]; rfl)))
  refine ord0 ?_
  refine done_ (done_of HT_.out (by kernel_rfl)) ?_
  try go_wp2
  go_ret
  exact ⟨by rfl, bx HB.out⟩
def laws_FnExactReleaseOk.f (k : Nat) (a0 : ByteArray) (a1_0 : Int) (l1_1 : List ByteArray) (l1_2 : List (S108)) (a1_3 : Bool) (l1_4 : List (S106)) (a1_5 : ByteArray) (a1_6 : ByteArray) : Option (Bool) := if (a0.size : Int) > 1048576 then (some true) else ((laws_szRelease.f k a1_0 l1_1 l1_2 a1_3 l1_4 a1_5 a1_6 1048576).bind fun t102 => (if t102 < 0 then (some true) else ((laws_toRelease.f k a1_0 l1_1 l1_2 a1_3 l1_4 a1_5 a1_6).bind fun bt103 => ((spec_ReleaseOk.f k a0 bt103.1 bt103.2.1 bt103.2.2.1 bt103.2.2.2.1 bt103.2.2.2.2.1 bt103.2.2.2.2.2.1 bt103.2.2.2.2.2.2).bind fun t116 => ((laws_toRelease.f k a1_0 l1_1 l1_2 a1_3 l1_4 a1_5 a1_6).bind fun bt117 => ((impl_ReleaseOk.f k a0 bt117.1 bt117.2.1 bt117.2.2.1 bt117.2.2.2.1 bt117.2.2.2.2.1 bt117.2.2.2.2.2.1 bt117.2.2.2.2.2.2).bind fun t131 => (if (t131 != t116) = true then (some false) else ((laws_toRelease.f k a1_0 l1_1 l1_2 a1_3 l1_4 a1_5 a1_6).bind fun bt132 => ((laws_eqRelease.f k bt117.1 bt117.2.1 bt117.2.2.1 bt117.2.2.2.1 bt117.2.2.2.2.1 bt117.2.2.2.2.2.1 bt117.2.2.2.2.2.2 bt132.1 bt132.2.1 bt132.2.2.1 bt132.2.2.2.1 bt132.2.2.2.2.1 bt132.2.2.2.2.2.1 bt132.2.2.2.2.2.2).bind fun t145 => (if t145 = true then (some true) else (some false)))))))))))
theorem laws_FnExactReleaseOk.mono : ∀ a0 a1 a2 a3 a4 a5 a6 a7 k, LeO (laws_FnExactReleaseOk.f k a0 a1 a2 a3 a4 a5 a6 a7) (laws_FnExactReleaseOk.f (k + 1) a0 a1 a2 a3 a4 a5 a6 a7) := by
 intro a0 a1 a2 a3 a4 a5 a6 a7 k
 unfold laws_FnExactReleaseOk.f
 have I0_ := fun a b c d e f g h i => LeC.mk (impl_ReleaseOk.mono a b c d e f g h i)
 have I1_ := fun a b c d e f g h i j k l m n o => LeC.mk (laws_eqRelease.mono a b c d e f g h i j k l m n o)
 have I2_ := fun a b c d e f g h i => LeC.mk (laws_szRelease.mono a b c d e f g h i)
 have I3_ := fun a b c d e f g h => LeC.mk (laws_toRelease.mono a b c d e f g h)
 have I4_ := fun a b c d e f g h i => LeC.mk (spec_ReleaseOk.mono a b c d e f g h i)
 exact LeC.out
theorem laws_FnExactReleaseOk.calls (k : Nat) (a0 : ByteArray) (a1_0 : Int) (A1_1 : Option Addr) (c1_1 : Nat) (l1_1 : List ByteArray) (A1_2 : Option Addr) (c1_2 : Nat) (l1_2 : List (S108)) (a1_3 : Bool) (A1_4 : Option Addr) (c1_4 : Nat) (l1_4 : List (S106)) (a1_5 : ByteArray) (a1_6 : ByteArray) (r : Bool) (w : World) (hT : r = true) (hGp : GWp w) (hGs : GWs w) (hr1_1 : Kd.C Kd.string w A1_1 l1_1.length l1_1) (hc1_1 : l1_1.length ≤ c1_1) (hr1_2 : Kd.C k108 w A1_2 l1_2.length l1_2) (hc1_2 : l1_2.length ≤ c1_2) (hr1_4 : Kd.C k106 w A1_4 l1_4.length l1_4) (hc1_4 : l1_4.length ≤ c1_4) (h : laws_FnExactReleaseOk.f k a0 a1_0 l1_1 l1_2 a1_3 l1_4 a1_5 a1_6 = some r) :
  Calls Tryz.prog 4 #[.string a0, .agg #[.int .i64 a1_0, .slice A1_1 l1_1.length c1_1, .slice A1_2 l1_2.length c1_2, .bool a1_3, .slice A1_4 l1_4.length c1_4, .string a1_5, .string a1_6]] w fun e w' => e = .returned (.bool r) ∧ Below w.heap.size w w' := by
 have hu28 := Tryz.underlying28
 have hu36 := Tryz.underlying36
 have HT := Aside0.mk hT
 clear hT
 have HGWp := Aside0.mk hGp
 clear hGp
 have HGWs := Aside0.mk hGs
 clear hGs
 have HR1_1 := Aside0.mk hr1_1
 have HC1_1 := Aside0.mk hc1_1
 clear hr1_1 hc1_1
 have HR1_2 := Aside0.mk hr1_2
 have HC1_2 := Aside0.mk hc1_2
 clear hr1_2 hc1_2
 have HR1_4 := Aside0.mk hr1_4
 have HC1_4 := Aside0.mk hc1_4
 clear hr1_4 hc1_4
 have HB := Aside0.mk (Below.refl w.heap.size w)
 unfold laws_FnExactReleaseOk.f at h
 have H := h
 clear h
 by_cases c3 : (a0.size : Int) > 1048576
 ·rw [if_pos c3] at H
  have c3b0 : decide (1048576 < (a0.size : Int)) = true := decide_eq_true c3
  have c3b1 : decide (1048576 < a0.size) = true := decide_eq_true (by omega)
  clear c3
  obtain rfl := Option.some.inj H
  go_enter Tryz.func4, Tryz.ntmps4
  go_wp2_with (first | ((with_reducible refine gate_dst (N := 3) rfl ?_); refine box_event rfl (N := 3) rfl (cs := #[.int .i64 a1_0, .slice A1_1 l1_1.length c1_1, .slice A1_2 l1_2.length c1_2, .bool a1_3, .slice A1_4 l1_4.length c1_4, .string a1_5, .string a1_6]) (t := 28) (by go_simp <;> rfl) ?_; intro gb101 hg w4 hbox hb; have BK101 := Aside0.mk (hbox); have GW101 := Le_.mk (ge_of hg HB.out); have GE101 := Le_.mk (ge_of hg HB.out); replace HB := kB HB hb; clear hb hbox hg))
  go_ret
  exact ⟨by rfl, bx HB.out⟩
 ·rw [if_neg c3] at H
  have c3b0 : decide (1048576 < (a0.size : Int)) = false := decide_eq_false c3
  have c3b1 : decide (1048576 < a0.size) = false := decide_eq_false (by omega)
  clear c3
  replace H := Option.bind_eq_some_iff.mp H
  obtain ⟨t102, A50, H⟩ := H
  have A5 := Aside0.mk A50
  clear A50
  by_cases c6 : t102 < 0
  ·rw [if_pos c6] at H
   have c6b0 := decide_eq_true c6
   clear c6
   obtain rfl := Option.some.inj H
   go_enter Tryz.func4, Tryz.ntmps4
   go_wp2_with (first | ((with_reducible refine gate_dst (N := 3) rfl ?_); refine box_event rfl (N := 3) rfl (cs := #[.int .i64 a1_0, .slice A1_1 l1_1.length c1_1, .slice A1_2 l1_2.length c1_2, .bool a1_3, .slice A1_4 l1_4.length c1_4, .string a1_5, .string a1_6]) (t := 28) (by go_simp <;> rfl) ?_; intro gb101 hg w7 hbox hb; have BK101 := Aside0.mk (hbox); have GW101 := Le_.mk (ge_of hg HB.out); have GE101 := Le_.mk (ge_of hg HB.out); replace HB := kB HB hb; clear hb hbox hg; have hz8 := cells_7 BK101.out) | ((with_reducible refine gate_callee (f := 7) rfl ?_); refine goL (some 14) rfl rfl gf7 #[.agg #[.int .i64 a1_0, .slice A1_1 l1_1.length c1_1, .slice A1_2 l1_2.length c1_2, .bool a1_3, .slice A1_4 l1_4.length c1_4, .string a1_5, .string a1_6], .int .i64 1048576] rfl rfl ?_; (with_reducible refine (laws_szRelease.calls k a1_0 _ _ l1_1 _ _ l1_2 a1_3 _ _ l1_4 a1_5 a1_6 1048576 t102 _ (cx (Kd.C_below HR1_1.out HB.out)) HC1_1.out (cx (Kd.C_below HR1_2.out HB.out)) HC1_2.out (cx (Kd.C_below HR1_4.out HB.out)) HC1_4.out A5.out).mono ?_); rintro e w9 ⟨rfl, hb⟩; refine ⟨_, rfl, ?_⟩; replace BK101 := kb BK101 hb; replace HB := kB HB hb; (try clear hb); (try clear hb2); (try clear hk); (try clear hi)))
   go_ret
   exact ⟨by rfl, bx HB.out⟩
  ·rw [if_neg c6] at H
   have c6b0 := decide_eq_false c6
   clear c6
   replace H := Option.bind_eq_some_iff.mp H
   obtain ⟨⟨t103, t104, t107, t110, t111, t114, t115⟩, A100, H⟩ := H
   try dsimp only at H
   have A10 := Aside0.mk A100
   clear A100
   replace H := Option.bind_eq_some_iff.mp H
   obtain ⟨t116, A110, H⟩ := H
   have A11 := Aside0.mk A110
   clear A110
   replace H := Option.bind_eq_some_iff.mp H
   obtain ⟨⟨t117, t118, t121, t124, t125, t128, t129⟩, A120, H⟩ := H
   try dsimp only at H
   have A12 := Aside0.mk A120
   clear A120
   replace H := Option.bind_eq_some_iff.mp H
   obtain ⟨t131, A130, H⟩ := H
   have A13 := Aside0.mk A130
   clear A130
   by_cases c14 : (t131 != t116) = true
   ·rw [if_pos c14] at H
    have c14b0 : (t131 != t116) = true := c14
    (try (have c14b1 : decide (t131 = t116) = false := by simpa using c14))
    (try (have c14b2 : (t131 == t116) = false := by simpa using c14))
    (try (have c14b3 : ¬ (t131 = t116) := by simpa using c14))
    clear c14
    exact absurd (Option.some.inj H) (by rw [HT.out]; decide)
   ·rw [if_neg c14] at H
    have c14b0 : (t131 != t116) = false := by simpa using c14
    (try (have c14b1 : decide (t131 = t116) = true := by simpa using c14))
    (try (have c14b2 : (t131 == t116) = true := by simpa using c14))
    clear c14
    replace H := Option.bind_eq_some_iff.mp H
    obtain ⟨⟨t132, t133, t136, t139, t140, t143, t144⟩, A150, H⟩ := H
    try dsimp only at H
    have A15 := Aside0.mk A150
    clear A150
    replace H := Option.bind_eq_some_iff.mp H
    obtain ⟨t145, A160, H⟩ := H
    have A16 := Aside0.mk A160
    clear A160
    by_cases c17 : t145 = true
    ·subst c17
     rw [if_pos rfl] at H
     obtain rfl := Option.some.inj H
     go_enter Tryz.func4, Tryz.ntmps4
     try go_wp2_with (first | ((with_reducible refine gate_dst (N := 3) rfl ?_); refine box_event rfl (N := 3) rfl (cs := #[.int .i64 a1_0, .slice A1_1 l1_1.length c1_1, .slice A1_2 l1_2.length c1_2, .bool a1_3, .slice A1_4 l1_4.length c1_4, .string a1_5, .string a1_6]) (t := 28) (by go_simp <;> rfl) ?_; intro gb101 hg w18 hbox hb; have BK101 := Aside0.mk (hbox); have GW101 := Le_.mk (ge_of hg HB.out); have GE101 := Le_.mk (ge_of hg HB.out); replace HB := kB HB hb; clear hb hbox hg; have hz19 := cells_7 BK101.out) | ((with_reducible refine gate_callee (f := 7) rfl ?_); refine goL (some 14) rfl rfl gf7 #[.agg #[.int .i64 a1_0, .slice A1_1 l1_1.length c1_1, .slice A1_2 l1_2.length c1_2, .bool a1_3, .slice A1_4 l1_4.length c1_4, .string a1_5, .string a1_6], .int .i64 1048576] rfl rfl ?_; (with_reducible refine (laws_szRelease.calls k a1_0 _ _ l1_1 _ _ l1_2 a1_3 _ _ l1_4 a1_5 a1_6 1048576 t102 _ (cx (Kd.C_below HR1_1.out HB.out)) HC1_1.out (cx (Kd.C_below HR1_2.out HB.out)) HC1_2.out (cx (Kd.C_below HR1_4.out HB.out)) HC1_4.out A5.out).mono ?_); rintro e w20 ⟨rfl, hb⟩; refine ⟨_, rfl, ?_⟩; replace BK101 := kb BK101 hb; replace HB := kB HB hb; (try clear hb); (try clear hb2); (try clear hk); (try clear hi); have hz21 := cells_7 BK101.out) | ((with_reducible refine gate_callee (f := 9) rfl ?_); refine goL (some 19) rfl rfl gf9 #[.agg #[.int .i64 a1_0, .slice A1_1 l1_1.length c1_1, .slice A1_2 l1_2.length c1_2, .bool a1_3, .slice A1_4 l1_4.length c1_4, .string a1_5, .string a1_6]] rfl rfl ?_; (with_reducible refine (laws_toRelease.calls k a1_0 _ _ l1_1 _ _ l1_2 a1_3 _ _ l1_4 a1_5 a1_6 t103 t104 t107 t110 t111 t114 t115 _ (cx (Kd.C_below HR1_1.out HB.out)) HC1_1.out (cx (Kd.C_below HR1_2.out HB.out)) HC1_2.out (cx (Kd.C_below HR1_4.out HB.out)) HC1_4.out A10.out).mono ?_); rintro e w22 ⟨v105, v108, v112, rfl, ho0, ho1, ho2, hb⟩; refine ⟨_, rfl, ?_⟩; have HO106 := Aside0.mk (Kd.R_lower ho0 (bz HB.out)); have HO109 := Aside0.mk (Kd.R_lower ho1 (bz HB.out)); have HO113 := Aside0.mk (Kd.R_lower ho2 (bz HB.out)); replace BK101 := kb BK101 hb; replace HB := kB HB hb; (try clear hb); (try clear hb2); (try clear hk); (try clear hi); (try clear ho0); (try clear ho1); (try clear ho2); obtain ⟨Ao23, co23, eo23⟩ := Kd.R_slice HO106.out; subst eo23; obtain ⟨Ao24, co24, eo24⟩ := Kd.R_slice HO109.out; subst eo24; obtain ⟨Ao25, co25, eo25⟩ := Kd.R_slice HO113.out; subst eo25) | ((with_reducible refine gate_callee (f := 12) rfl ?_); refine goL (some 20) rfl rfl gf12 #[.string a0, .agg #[.int .i64 t103, .slice Ao23 t104.length co23, .slice Ao24 t107.length co24, .bool t110, .slice Ao25 t111.length co25, .string t114, .string t115]] rfl rfl ?_; (with_reducible refine (spec_ReleaseOk.calls k a0 t103 _ _ t104 _ _ t107 t110 _ _ t111 t114 t115 t116 _ (cx (Kd.R_reads' HO106.out).2.2) ((Kd.R_reads' HO106.out).2.1) (cx (Kd.R_reads' HO109.out).2.2) ((Kd.R_reads' HO109.out).2.1) (cx (Kd.R_reads' HO113.out).2.2) ((Kd.R_reads' HO113.out).2.1) A11.out).mono ?_); rintro e w26 ⟨rfl, hb⟩; refine ⟨_, rfl, ?_⟩; replace HO106 := kR HO106 hb; replace HO109 := kR HO109 hb; replace HO113 := kR HO113 hb; replace BK101 := kb BK101 hb; replace HB := kB HB hb; (try clear hb); (try clear hb2); (try clear hk); (try clear hi); have hz27 := cells_7 BK101.out) | ((with_reducible refine gate_callee (f := 9) rfl ?_); refine goL (some 22) rfl rfl gf9 #[.agg #[.int .i64 a1_0, .slice A1_1 l1_1.length c1_1, .slice A1_2 l1_2.length c1_2, .bool a1_3, .slice A1_4 l1_4.length c1_4, .string a1_5, .string a1_6]] rfl rfl ?_; (with_reducible refine (laws_toRelease.calls k a1_0 _ _ l1_1 _ _ l1_2 a1_3 _ _ l1_4 a1_5 a1_6 t117 t118 t121 t124 t125 t128 t129 _ (cx (Kd.C_below HR1_1.out HB.out)) HC1_1.out (cx (Kd.C_below HR1_2.out HB.out)) HC1_2.out (cx (Kd.C_below HR1_4.out HB.out)) HC1_4.out A12.out).mono ?_); rintro e w28 ⟨v119, v122, v126, rfl, ho0, ho1, ho2, hb⟩; refine ⟨_, rfl, ?_⟩; have HO120 := Aside0.mk (Kd.R_lower (Kd.R_new' ho0 (Kd.R_lt (rx HO106.out))) (bz HB.out)); replace HO106 := Aside0.mk (Kd.R_elder' (rx HO106.out) (Kd.R_base ho0) hb); have HO123 := Aside0.mk (Kd.R_lower (Kd.R_new' ho1 (Kd.R_lt (rx HO109.out))) (bz HB.out)); replace HO109 := Aside0.mk (Kd.R_elder' (rx HO109.out) (Kd.R_base ho1) hb); have HO127 := Aside0.mk (Kd.R_lower (Kd.R_new' ho2 (Kd.R_lt (rx HO113.out))) (bz HB.out)); replace HO113 := Aside0.mk (Kd.R_elder' (rx HO113.out) (Kd.R_base ho2) hb); replace BK101 := kb BK101 hb; replace HB := kB HB hb; (try clear hb); (try clear hb2); (try clear hk); (try clear hi); (try clear ho0); (try clear ho1); (try clear ho2)) | ((with_reducible refine gate_dst (N := 7) rfl ?_); refine box_event rfl (N := 7) rfl (cs := #[.int .i64 0, .slice none 0 0, .slice none 0 0, .bool false, .slice none 0 0, .string (⟨#[]⟩ : ByteArray), .string (⟨#[]⟩ : ByteArray)]) (t := 36) (by go_simp <;> rfl) ?_; intro gb130 hg w29 hbox hb; replace HO106 := kR HO106 hb; replace HO109 := kR HO109 hb; replace HO113 := kR HO113 hb; replace HO120 := kR HO120 hb; replace HO123 := kR HO123 hb; replace HO127 := kR HO127 hb; have BK130 := Aside0.mk (hbox); have GW130 := Le_.mk (ge_of hg HB.out); have GE130 := Le_.mk (ge_of hg HB.out); replace HB := kB HB hb; have NB101_130 := Ne_.mk (nl hg (blk_lt BK101.out)); have NB130_101 := Ne_.mk (ng hg (blk_lt BK101.out)); replace BK101 := kb BK101 hb; clear hb hbox hg; have hnb30 := NB130_101.out; have hnc30 := NB101_130.out; have hz31 := cells_7 BK130.out; obtain ⟨Ao32, co32, eo32⟩ := Kd.R_slice HO120.out; subst eo32; obtain ⟨Ao33, co33, eo33⟩ := Kd.R_slice HO123.out; subst eo33; obtain ⟨Ao34, co34, eo34⟩ := Kd.R_slice HO127.out; subst eo34) | ((with_reducible refine gate_callee (f := 13) rfl ?_); refine goL (some 25) rfl rfl gf13 #[.string a0, .agg #[.int .i64 t117, .slice Ao32 t118.length co32, .slice Ao33 t121.length co33, .bool t124, .slice Ao34 t125.length co34, .string t128, .string t129]] rfl rfl ?_; (with_reducible refine (impl_ReleaseOk.calls k a0 t117 _ _ t118 _ _ t121 t124 _ _ t125 t128 t129 t131 _ ?side1 ?side2 ?side3 ?side4 ?side5 ?side6 ?side7 ?side8 A13.out).mono ?_); (case side1 => exact GWp.below HGWp.out (bx HB.out)); (case side2 => exact GWs.below HGWs.out (bx HB.out)); (case side3 => refine (Kd.R_reads' (e := 9) (base := w.heap.size) (ok := fun k_ => (True ∧ some k_ ≠ (.slice Ao23 t104.length co23 : Value).ownBlock)) (n := t118.length) (c := co32) ?_).2.2; exact (rf1 HO120.out BK130.out (by decide))); (case side4 => exact (Kd.R_reads' HO120.out).2.1); (case side5 => refine (Kd.R_reads' (e := 100) (base := w.heap.size) (ok := fun k_ => (True ∧ some k_ ≠ (.slice Ao24 t107.length co24 : Value).ownBlock)) (n := t121.length) (c := co33) ?_).2.2; exact (rf1 HO123.out BK130.out (by decide))); (case side6 => exact (Kd.R_reads' HO123.out).2.1); (case side7 => refine (Kd.R_reads' (e := 103) (base := w.heap.size) (ok := fun k_ => (True ∧ some k_ ≠ (.slice Ao25 t111.length co25 : Value).ownBlock)) (n := t125.length) (c := co34) ?_).2.2; exact (rf1 HO127.out BK130.out (by decide))); (case side8 => exact (Kd.R_reads' HO127.out).2.1); rintro e w35 ⟨rfl, hb⟩; refine ⟨_, rfl, ?_⟩; replace HO106 := Aside0.mk (Kd.R_below (rf1 HO106.out BK130.out (by decide)) hb); replace HO109 := Aside0.mk (Kd.R_below (rf1 HO109.out BK130.out (by decide)) hb); replace HO113 := Aside0.mk (Kd.R_below (rf1 HO113.out BK130.out (by decide)) hb); replace HO120 := Aside0.mk (Kd.R_below (rf1 HO120.out BK130.out (by decide)) hb); replace HO123 := Aside0.mk (Kd.R_below (rf1 HO123.out BK130.out (by decide)) hb); replace HO127 := Aside0.mk (Kd.R_below (rf1 HO127.out BK130.out (by decide)) hb); replace BK101 := Aside0.mk (blk_below (g := gb101) (o := .cells #[.int .i64 a1_0, .slice A1_1 l1_1.length c1_1, .slice A1_2 l1_2.length c1_2, .bool a1_3, .slice A1_4 l1_4.length c1_4, .string a1_5, .string a1_6] 28 (0, 0)) (cl BK101.out rfl) hb); replace BK130 := Aside0.mk (blk_below (g := gb130) (o := .cells #[.int .i64 t117, .slice Ao32 t118.length co32, .slice Ao33 t121.length co33, .bool t124, .slice Ao34 t125.length co34, .string t128, .string t129] 36 (0, 0)) (cl BK130.out rfl) hb); replace HB := kB HB hb; (try clear hb); (try clear hb2); (try clear hk); (try clear hi)))
     replace HO106 := Aside0.mk (Kd.R_drew HO106.out)
     replace HO109 := Aside0.mk (Kd.R_drew HO109.out)
     replace HO113 := Aside0.mk (Kd.R_drew HO113.out)
     replace HO120 := Aside0.mk (Kd.R_drew HO120.out)
     replace HO123 := Aside0.mk (Kd.R_drew HO123.out)
     replace HO127 := Aside0.mk (Kd.R_drew HO127.out)
     replace BK101 := Aside0.mk (blk_drew BK101.out)
     replace BK130 := Aside0.mk (blk_drew BK130.out)
     replace HB := Aside0.mk (below_drew1 HB.out)
     refine start_ (n := 5) (S := fun w' => w'.cell? ⟨gb130, 0, none⟩ = some (.int .i64 t117) ∧ w'.cell? ⟨gb130, 1, none⟩ = some (.slice Ao32 t118.length co32) ∧ w'.cell? ⟨gb130, 2, none⟩ = some (.slice Ao33 t121.length co33) ∧ w'.cell? ⟨gb130, 3, none⟩ = some (.bool t124) ∧ w'.cell? ⟨gb130, 4, none⟩ = some (.slice Ao34 t125.length co34) ∧ w'.cell? ⟨gb130, 5, none⟩ = some (.string t128) ∧ w'.cell? ⟨gb130, 6, none⟩ = some (.string t129) ∧ w'.cell? ⟨gb101, 0, none⟩ = some (.int .i64 a1_0) ∧ w'.cell? ⟨gb101, 1, none⟩ = some (.slice A1_1 l1_1.length c1_1) ∧ w'.cell? ⟨gb101, 2, none⟩ = some (.slice A1_2 l1_2.length c1_2) ∧ w'.cell? ⟨gb101, 3, none⟩ = some (.bool a1_3) ∧ w'.cell? ⟨gb101, 4, none⟩ = some (.slice A1_4 l1_4.length c1_4) ∧ w'.cell? ⟨gb101, 5, none⟩ = some (.string a1_5) ∧ w'.cell? ⟨gb101, 6, none⟩ = some (.string a1_6)) (ds := []) _ (by kernel_rfl) rfl rfl ⟨(blk_cell BK130.out 0).trans rfl, (blk_cell BK130.out 1).trans rfl, (blk_cell BK130.out 2).trans rfl, (blk_cell BK130.out 3).trans rfl, (blk_cell BK130.out 4).trans rfl, (blk_cell BK130.out 5).trans rfl, (blk_cell BK130.out 6).trans rfl, (blk_cell BK101.out 0).trans rfl, (blk_cell BK101.out 1).trans rfl, (blk_cell BK101.out 2).trans rfl, (blk_cell BK101.out 3).trans rfl, (blk_cell BK101.out 4).trans rfl, (blk_cell BK101.out 5).trans rfl, (blk_cell BK101.out 6).trans rfl⟩ (fun hHeld => ?_)
     generalize w35.drew = w36 at HO106 HO109 HO113 HO120 HO123 HO127 BK101 BK130 HB hHeld ⊢
     refine take_ (i := 0) (N := some 29) (v := ?_) (a' := ?_) #[true, false, false, false, false] rfl rfl (by kernel_rfl) (fun _ _ _ h => h) (Or.inl ⟨by rfl, ?_⟩) hHeld ?_ ?_
     rotate_left
     ·rintro w' ⟨s0, s1, s2, s3, s4, s5, s6, s7, s8, s9, s10, s11, s12, s13⟩
      go_simp
      with_reducible rfl
     rotate_left
     ·simp only [Act.put, List.setIfInBounds_toArray, List.set_cons_zero, List.set_cons_succ, i64_w, i32_w]
      rfl
     refine take_ (i := 1) (N := some 30) (v := ?_) (a' := ?_) #[true, true, false, false, false] rfl rfl (by kernel_rfl) (fun _ _ _ h => h) (Or.inl ⟨by rfl, ?_⟩) hHeld ?_ ?_
     rotate_left
     ·rintro w' ⟨s0, s1, s2, s3, s4, s5, s6, s7, s8, s9, s10, s11, s12, s13⟩
      go_simp
      with_reducible rfl
     rotate_left
     ·simp only [Act.put, List.setIfInBounds_toArray, List.set_cons_zero, List.set_cons_succ, i64_w, i32_w]
      rfl
     refine one_ (i := 2) (N := some 31) #[true, true, true, false, false] rfl rfl (by kernel_rfl) (by decide) (fun K hK => ?_)
     refine goM gf9 #[.agg #[.int .i64 a1_0, .slice A1_1 l1_1.length c1_1, .slice A1_2 l1_2.length c1_2, .bool a1_3, .slice A1_4 l1_4.length c1_4, .string a1_5, .string a1_6]] (by rfl) rfl rfl rfl ?_
     with_reducible refine (laws_toRelease.calls k a1_0 _ _ l1_1 _ _ l1_2 a1_3 _ _ l1_4 a1_5 a1_6 t132 t133 t136 t139 t140 t143 t144 _ ?side1 ?side2 ?side3 ?side4 ?side5 ?side6 A15.out).mono ?_
     (case side1 => exact cx (Kd.C_below HR1_1.out HB.out))
     (case side2 => exact HC1_1.out)
     (case side3 => exact cx (Kd.C_below HR1_2.out HB.out))
     (case side4 => exact HC1_2.out)
     (case side5 => exact cx (Kd.C_below HR1_4.out HB.out))
     (case side6 => exact HC1_4.out)
     rintro e w37 ⟨v134, v137, v141, rfl, ho0, ho1, ho2, hb⟩
     refine ⟨_, rfl, ?_⟩
     have HO135 := Aside0.mk (Kd.R_lower (Kd.R_new' (Kd.R_new' ho0 (Kd.R_lt (rx HO106.out))) (Kd.R_lt (rx HO120.out))) (bz HB.out))
     replace HO106 := Aside0.mk (Kd.R_elder' (rx HO106.out) (Kd.R_base ho0) hb)
     replace HO120 := Aside0.mk (Kd.R_elder' (rx HO120.out) (Kd.R_base ho0) hb)
     have HO138 := Aside0.mk (Kd.R_lower (Kd.R_new' (Kd.R_new' ho1 (Kd.R_lt (rx HO109.out))) (Kd.R_lt (rx HO123.out))) (bz HB.out))
     replace HO109 := Aside0.mk (Kd.R_elder' (rx HO109.out) (Kd.R_base ho1) hb)
     replace HO123 := Aside0.mk (Kd.R_elder' (rx HO123.out) (Kd.R_base ho1) hb)
     have HO142 := Aside0.mk (Kd.R_lower (Kd.R_new' (Kd.R_new' ho2 (Kd.R_lt (rx HO113.out))) (Kd.R_lt (rx HO127.out))) (bz HB.out))
     replace HO113 := Aside0.mk (Kd.R_elder' (rx HO113.out) (Kd.R_base ho2) hb)
     replace HO127 := Aside0.mk (Kd.R_elder' (rx HO127.out) (Kd.R_base ho2) hb)
     replace BK101 := kb BK101 hb
     replace BK130 := kb BK130 hb
     replace HB := kB HB hb
     (try clear hb)
     (try clear hb2)
     (try clear hk)
     (try clear hi)
     (try clear ho0)
     (try clear ho1)
     (try clear ho2)
     obtain ⟨Ao38, co38, eo38⟩ := Kd.R_slice HO135.out
     (first | subst eo38 | (injection eo38 with f1_ f2_ f3_; have f4_ := f1_.symm; have f5_ := f3_.symm; clear f1_ f2_ f3_; subst f4_; subst f5_))
     obtain ⟨Ao39, co39, eo39⟩ := Kd.R_slice HO138.out
     (first | subst eo39 | (injection eo39 with f1_ f2_ f3_; have f4_ := f1_.symm; have f5_ := f3_.symm; clear f1_ f2_ f3_; subst f4_; subst f5_))
     obtain ⟨Ao40, co40, eo40⟩ := Kd.R_slice HO142.out
     (first | subst eo40 | (injection eo40 with f1_ f2_ f3_; have f4_ := f1_.symm; have f5_ := f3_.symm; clear f1_ f2_ f3_; subst f4_; subst f5_))
     refine hK.out _ _ ⟨(blk_cell BK130.out 0).trans rfl, (blk_cell BK130.out 1).trans rfl, (blk_cell BK130.out 2).trans rfl, (blk_cell BK130.out 3).trans rfl, (blk_cell BK130.out 4).trans rfl, (blk_cell BK130.out 5).trans rfl, (blk_cell BK130.out 6).trans rfl, (blk_cell BK101.out 0).trans rfl, (blk_cell BK101.out 1).trans rfl, (blk_cell BK101.out 2).trans rfl, (blk_cell BK101.out 3).trans rfl, (blk_cell BK101.out 4).trans rfl, (blk_cell BK101.out 5).trans rfl, (blk_cell BK101.out 6).trans rfl⟩ (fun hHeld => ?_)
     clear hK K
     refine norm_ (a' := ?_) ?_ ?_
     rotate_left
     ·show Act.put _ (some 31) _ = _
      simp only [Act.put, List.setIfInBounds_toArray, List.set_cons_zero, List.set_cons_succ, i64_w, i32_w]
      rfl
     refine one_ (i := 3) (N := some 32) #[true, true, true, true, false] rfl rfl (by kernel_rfl) (by decide) (fun K hK => ?_)
     refine goM gf11 #[.agg #[.int .i64 t117, .slice Ao32 t118.length co32, .slice Ao33 t121.length co33, .bool t124, .slice Ao34 t125.length co34, .string t128, .string t129], .agg #[.int .i64 t132, .slice Ao38 t133.length co38, .slice Ao39 t136.length co39, .bool t139, .slice Ao40 t140.length co40, .string t143, .string t144]] (by rfl) rfl rfl rfl ?_
     with_reducible refine (laws_eqRelease.calls k t117 _ _ t118 _ _ t121 t124 _ _ t125 t128 t129 t132 _ _ t133 _ _ t136 t139 _ _ t140 t143 t144 true _ ?side1 ?side2 ?side3 ?side4 ?side5 ?side6 ?side7 ?side8 ?side9 ?side10 ?side11 ?side12 A16.out).mono ?_
     (case side1 => exact cx (Kd.R_reads' HO120.out).2.2)
     (case side2 => exact (Kd.R_reads' HO120.out).2.1)
     (case side3 => exact cx (Kd.R_reads' HO123.out).2.2)
     (case side4 => exact (Kd.R_reads' HO123.out).2.1)
     (case side5 => exact cx (Kd.R_reads' HO127.out).2.2)
     (case side6 => exact (Kd.R_reads' HO127.out).2.1)
     (case side7 => exact cx (Kd.R_reads' HO135.out).2.2)
     (case side8 => exact (Kd.R_reads' HO135.out).2.1)
     (case side9 => exact cx (Kd.R_reads' HO138.out).2.2)
     (case side10 => exact (Kd.R_reads' HO138.out).2.1)
     (case side11 => exact cx (Kd.R_reads' HO142.out).2.2)
     (case side12 => exact (Kd.R_reads' HO142.out).2.1)
     rintro e w41 ⟨rfl, hb⟩
     refine ⟨_, rfl, ?_⟩
     replace HO106 := kR HO106 hb
     replace HO109 := kR HO109 hb
     replace HO113 := kR HO113 hb
     replace HO120 := kR HO120 hb
     replace HO123 := kR HO123 hb
     replace HO127 := kR HO127 hb
     replace HO135 := kR HO135 hb
     replace HO138 := kR HO138 hb
     replace HO142 := kR HO142 hb
     replace BK101 := kb BK101 hb
     replace BK130 := kb BK130 hb
     replace HB := kB HB hb
     (try clear hb)
     (try clear hb2)
     (try clear hk)
     (try clear hi)
     refine hK.out _ _ ⟨(blk_cell BK130.out 0).trans rfl, (blk_cell BK130.out 1).trans rfl, (blk_cell BK130.out 2).trans rfl, (blk_cell BK130.out 3).trans rfl, (blk_cell BK130.out 4).trans rfl, (blk_cell BK130.out 5).trans rfl, (blk_cell BK130.out 6).trans rfl, (blk_cell BK101.out 0).trans rfl, (blk_cell BK101.out 1).trans rfl, (blk_cell BK101.out 2).trans rfl, (blk_cell BK101.out 3).trans rfl, (blk_cell BK101.out 4).trans rfl, (blk_cell BK101.out 5).trans rfl, (blk_cell BK101.out 6).trans rfl⟩ (fun hHeld => ?_)
     clear hK K
     refine norm_ (a' := ?_) ?_ ?_
     rotate_left
     ·show Act.put _ (some 32) _ = _
      simp only [Act.put, List.setIfInBounds_toArray, List.set_cons_zero, List.set_cons_succ, i64_w, i32_w]
      rfl
     refine pure_ (i := 4) (N := some 33) (v := ?_) (a' := ?_) #[true, true, true, true, true] rfl rfl (by kernel_rfl) (fun _ _ _ h => h) (Or.inl ⟨by rfl, ?_⟩) ?_ ?_
     rotate_left
     ·intro w'
      go_simp
      with_reducible rfl
     rotate_left
     ·simp only [Act.put, List.setIfInBounds_toArray, List.set_cons_zero, List.set_cons_succ, i64_w, i32_w]
      rfl
     refine done_ (by kernel_rfl) ?_
     try go_wp2
     go_ret
     exact ⟨by rfl, bx HB.out⟩
    ·replace c17 := Bool.eq_false_iff.mpr c17
     subst c17
     rw [if_neg Bool.false_ne_true] at H
     exact absurd (Option.some.inj H) (by rw [HT.out]; decide)
end Go.Proofs.YtaakfmpffhfaeaaGreatDoor.M
end

section
/- How an argument that is read as data gives the reading that the contracts ask: integers, bools, strings, slices and structs of these, of any depth. -/
namespace Go.Proofs.YtaakfmpffhfaeaaGreatDoor.Frame
open Go.RowKit Go.Proofs.YtaakfmpffhfaeaaGreatDoorW.PrintWords Go.ChangeShapes Go.WideShapes
set_option linter.unusedVariables false
def Opens {α : Type} (P : Program) (t : TypeId) (d : Kd α) (G : α → Prop) : Prop :=
 ∀ (H : Type) (enc : TypeId × Value → H) (w : World) (base : Nat) (spare : Nat → Bool) (held : Bool) (fuel : Nat) (cs : List Value) (x : DataW H × List MemPlace),
  DataW.trod enc P w base spare held fuel t cs = some x → ∃ v : α, d.K w v cs ∧ G v
theorem Opens.int {P : Program} {t : TypeId} {k : IntKind} (h : P.underlying t = some (.int k)) : Opens P t (Kd.int k) (fun n => (Lit.int k n).wf = true) := by
 intro H enc w base spare held fuel cs x hx
 obtain ⟨n, rfl, _, hw⟩ := DataW.trod_int h hx
 exact ⟨n, rfl, hw⟩
theorem Opens.bool {P : Program} {t : TypeId} (h : P.underlying t = some .bool) : Opens P t Kd.bool (fun _ => True) := by
 intro H enc w base spare held fuel cs x hx
 obtain ⟨b, rfl, _⟩ := DataW.trod_bool h hx
 exact ⟨b, rfl, trivial⟩
theorem Opens.string {P : Program} {t : TypeId} (h : P.underlying t = some .string) : Opens P t Kd.string (fun s => s.size ≤ 9223372036854775807) := by
 intro H enc w base spare held fuel cs x hx
 obtain ⟨s, rfl, _, hs⟩ := DataW.trod_string h hx
 exact ⟨s, rfl, hs⟩
theorem list_choice {α : Type} (p : Nat → α → Prop) : ∀ n, (∀ i, i < n → ∃ x, p i x) → ∃ xs : List α, xs.length = n ∧ ∀ i x, xs[i]? = some x → p i x
 | 0, _ => ⟨[], rfl, fun i x h => by simp at h⟩
 | n + 1, h => by
  obtain ⟨xs, hl, hx⟩ := list_choice p n (fun i hi => h i (by omega))
  obtain ⟨y, hy⟩ := h n (by omega)
  refine ⟨xs ++ [y], by simp [hl], fun i x hi => ?_⟩
  rcases Nat.lt_or_ge i xs.length with hlt | hge
  ·rw [List.getElem?_append_left hlt] at hi
   exact hx i x hi
  ·rw [List.getElem?_append_right hge] at hi
   have h0 : i - xs.length = 0 := by
    rcases Nat.eq_zero_or_pos (i - xs.length) with h0 | h0
    ·exact h0
    ·rw [List.getElem?_eq_none (by simp; omega)] at hi
     cases hi
   rw [h0] at hi
   simp at hi
   subst hi
   have : i = n := by omega
   subst this
   exact hy
theorem Opens.slice {α : Type} {P : Program} {t e : TypeId} {d : Kd α} {G : α → Prop} (h : P.underlying t = some (.slice e)) (hs : P.cellsOf e = d.sz) (he : Opens P e d G) :
  Opens P t (Kd.slice e d) (fun xs => xs.length ≤ 9223372036854775807 ∧ ∀ x ∈ xs, G x) := by
 intro H enc w base spare held fuel cs x hx
 rcases DataW.trod_slice h hx with ⟨rfl, _⟩ | ⟨a, len, cap, elems, rest, n, _, rfl, _, hb, hl, hm, hlen, hel, _, _⟩
 ·exact ⟨[], ⟨none, 0, rfl, Nat.le_refl _, rfl, by simp, fun h => absurd h (by simp)⟩, by simp, fun x hx => by simp at hx⟩
 ·have hex : ∀ i, i < len → ∃ v : α, G v ∧ ∃ c, c.length = d.sz ∧ d.K w v c ∧ ∀ j u, c[j]? = some u → w.cell? (a.add (i * d.sz + j)) = some u := by
   intro i hi
   have hk := hel i hi
   rw [List.getElem?_eq_getElem (by omega)] at hk
   obtain ⟨c, hc, ht⟩ := Option.bind_eq_some_iff.1 hk
   obtain ⟨_, hcl, hcc⟩ := World.cells?_some hc
   obtain ⟨v, hv, hg⟩ := he H enc w base spare held n c _ ht
   refine ⟨v, hg, c, by rw [hcl, hs], hv, fun j u hj => ?_⟩
   have hjl : j < c.length := by
    rcases Nat.lt_or_ge j c.length with h1 | h1
    ·exact h1
    ·rw [List.getElem?_eq_none h1] at hj
     cases hj
   have h2 := hcc j (by omega)
   rw [hj] at h2
   rw [hs] at h2
   have ha : (a.add (i * d.sz)).add j = a.add (i * d.sz + j) := by
    unfold Addr.add
    by_cases h1 : i * d.sz = 0 <;> by_cases h3 : j = 0 <;> simp [h1, h3, Nat.add_assoc]
   rw [← ha]
   exact h2
  obtain ⟨xs, hxl, hxs⟩ := list_choice _ len hex
  refine ⟨xs, ⟨some a, cap, by rw [hxl], by omega, hxl ▸ rfl, by unfold maxLen at hm; omega, fun _ => ⟨a, rfl, fun j p hj => (hxs j p hj).2⟩⟩, by unfold maxLen at hm; omega, fun x hx => ?_⟩
  obtain ⟨i, hi⟩ := List.getElem?_of_mem hx
  exact (hxs i x hi).1
def OpensF {α : Type} (P : Program) (fs : List Field) (off : Nat) (d : Kd α) (G : α → Prop) : Prop :=
 ∀ (H : Type) (enc : TypeId × Value → H) (w : World) (base : Nat) (spare : Nat → Bool) (held : Bool) (fuel : Nat) (cs : List Value) (xs : List (DataW H × List MemPlace)),
  cs.length = off + d.sz → (∀ (i : Nat) (f : Field), fs[i]? = some f → DataW.trod enc P w base spare held fuel f.type ((cs.drop f.offset).take (P.cellsOf f.type)) = xs[i]?) → xs.length = fs.length → ∃ v : α, d.K w v (cs.drop off) ∧ G v
theorem OpensF.one {α : Type} {P : Program} {f : Field} {off : Nat} {d : Kd α} {G : α → Prop} (ho : f.offset = off) (hs : P.cellsOf f.type = d.sz) (h : Opens P f.type d G) : OpensF P [f] off d G := by
 intro H enc w base spare held fuel cs xs hl hx hxl
 have h0 := hx 0 f rfl
 obtain ⟨x0, rfl⟩ : ∃ x0, xs = [x0] := by
  match xs, hxl with
  | [x0], _ => exact ⟨x0, rfl⟩
 obtain ⟨v, hv, hg⟩ := h H enc w base spare held fuel _ _ h0
 refine ⟨v, ?_, hg⟩
 rw [ho, hs, List.take_of_length_le (by rw [List.length_drop]; omega)] at hv
 exact hv
theorem OpensF.cons {α β : Type} {P : Program} {f : Field} {fs : List Field} {off : Nat} {d : Kd α} {e : Kd β} {G : α → Prop} {K : β → Prop} (ho : f.offset = off) (hs : P.cellsOf f.type = d.sz) (h : Opens P f.type d G) (hr : OpensF P fs (off + d.sz) e K) :
  OpensF P (f :: fs) off (Kd.pair d e) (fun x => G x.1 ∧ K x.2) := by
 intro H enc w base spare held fuel cs xs hl hx hxl
 have hl' : cs.length = off + d.sz + e.sz := by rw [hl]; show off + (d.sz + e.sz) = _; omega
 obtain ⟨x0, xr, rfl⟩ : ∃ x0 xr, xs = x0 :: xr := by
  match xs, hxl with
  | x0 :: xr, _ => exact ⟨x0, xr, rfl⟩
 obtain ⟨v, hv, hg⟩ := h H enc w base spare held fuel _ _ (hx 0 f rfl)
 obtain ⟨u, hu, hk⟩ := hr H enc w base spare held fuel cs xr hl' (fun i g hi => hx (i + 1) g hi) (by simpa using hxl)
 refine ⟨(v, u), ⟨(cs.drop off).take d.sz, cs.drop (off + d.sz), ?_, ?_, hu⟩, hg, hk⟩
 ·rw [← List.drop_drop, List.take_append_drop]
 ·rw [ho, hs] at hv
  exact hv
theorem Opens.struct {α β : Type} {P : Program} {t : TypeId} {fs : Array Field} {d : Kd α} {G : α → Prop} {f : β → α} (g : α → β) (hfg : ∀ x, f (g x) = x) (h : P.underlying t = some (.struct fs)) (hs : P.cellsOf t = d.sz) (hf : OpensF P fs.toList 0 d G) :
  Opens P t (Kd.iso d f) (fun x => G (f x)) := by
 intro H enc w base spare held fuel cs x hx
 obtain ⟨xs, n, _, _, hl, hxl, hi⟩ := DataW.trod_struct h hx
 obtain ⟨v, hv, hg⟩ := hf H enc w base spare held n cs xs (by rw [hl, hs]; omega) (fun i fd hfd => hi i fd (by rw [← Array.getElem?_toList]; exact hfd)) (by rw [hxl]; simp)
 refine ⟨g v, ?_, ?_⟩
 ·show d.K w (f (g v)) cs
  rw [hfg]
  simpa using hv
 ·show G (f (g v))
  rw [hfg]
  exact hg
end Go.Proofs.YtaakfmpffhfaeaaGreatDoor.Frame
end

section
/- How the parameters' types are opened. -/
namespace Go.Proofs.YtaakfmpffhfaeaaGreatDoor.M
open Go.RowKit Go.Proofs.YtaakfmpffhfaeaaGreatDoorW.PrintWords Go.Proofs.YtaakfmpffhfaeaaGreatDoor.Frame
set_option linter.unusedVariables false
def good108 (x : S108) : Prop := x.f0.size ≤ 9223372036854775807 ∧ x.f1.size ≤ 9223372036854775807
theorem opens108 : Opens Tryz.prog 108 k108 good108 := Opens.struct (g := fun p => (⟨p.1, p.2⟩ : S108)) (fun _ => rfl) Tryz.underlying108 (by kernel_rfl) (OpensF.cons rfl (by kernel_rfl) (Opens.string Tryz.underlying9) (OpensF.one rfl (by kernel_rfl) (Opens.string Tryz.underlying9)))
def good106 (x : S106) : Prop := x.f0.size ≤ 9223372036854775807 ∧ True ∧ x.f2.size ≤ 9223372036854775807 ∧ x.f3.size ≤ 9223372036854775807 ∧ x.f4.size ≤ 9223372036854775807
theorem opens106 : Opens Tryz.prog 106 k106 good106 := Opens.struct (g := fun p => (⟨p.1, p.2.1, p.2.2.1, p.2.2.2.1, p.2.2.2.2⟩ : S106)) (fun _ => rfl) Tryz.underlying106 (by kernel_rfl) (OpensF.cons rfl (by kernel_rfl) (Opens.string Tryz.underlying9) (OpensF.cons rfl (by kernel_rfl) (Opens.bool Tryz.underlying4) (OpensF.cons rfl (by kernel_rfl) (Opens.string Tryz.underlying9) (OpensF.cons rfl (by kernel_rfl) (Opens.string Tryz.underlying9) (OpensF.one rfl (by kernel_rfl) (Opens.string Tryz.underlying9))))))
structure S26 where
 f0 : (List ByteArray)
 f1 : (List S108)
 f2 : Bool
 f3 : (List S106)
def k26 : Kd S26 := Kd.iso (Kd.pair (Kd.slice 9 Kd.string) (Kd.pair (Kd.slice 108 k108) (Kd.pair Kd.bool (Kd.slice 106 k106)))) (fun x : S26 => (x.f0, x.f1, x.f2, x.f3))
theorem k26_open {w : World} {x : S26} {cs : List Value} (h : k26.K w x cs) : ∃ A0 c0 A1 c1 A3 c3, cs = [.slice A0 x.f0.length c0, .slice A1 x.f1.length c1, .bool x.f2, .slice A3 x.f3.length c3] ∧ x.f0.length ≤ c0 ∧ Kd.string.C w A0 x.f0.length x.f0 ∧ x.f1.length ≤ c1 ∧ k108.C w A1 x.f1.length x.f1 ∧ x.f3.length ≤ c3 ∧ k106.C w A3 x.f3.length x.f3 := by
 obtain ⟨_, _, rfl, ⟨A0, c0, rfl, l0, g0⟩, ⟨_, _, rfl, ⟨A1, c1, rfl, l1, g1⟩, ⟨_, _, rfl, rfl, ⟨A3, c3, rfl, l3, g3⟩⟩⟩⟩ := h
 exact ⟨A0, c0, A1, c1, A3, c3, rfl, l0, g0, l1, g1, l3, g3⟩
def good26 (x : S26) : Prop := (x.f0.length ≤ 9223372036854775807 ∧ ∀ y ∈ x.f0, y.size ≤ 9223372036854775807) ∧ (x.f1.length ≤ 9223372036854775807 ∧ ∀ y ∈ x.f1, good108 y) ∧ True ∧ (x.f3.length ≤ 9223372036854775807 ∧ ∀ y ∈ x.f3, good106 y)
theorem opens26 : Opens Tryz.prog 26 k26 good26 := Opens.struct (g := fun p => (⟨p.1, p.2.1, p.2.2.1, p.2.2.2⟩ : S26)) (fun _ => rfl) Tryz.underlying26 (by kernel_rfl) (OpensF.cons rfl (by kernel_rfl) (Opens.slice Tryz.underlying22 (by kernel_rfl) (Opens.string Tryz.underlying9)) (OpensF.cons rfl (by kernel_rfl) (Opens.slice Tryz.underlying23 (by kernel_rfl) opens108) (OpensF.cons rfl (by kernel_rfl) (Opens.bool Tryz.underlying4) (OpensF.one rfl (by kernel_rfl) (Opens.slice Tryz.underlying24 (by kernel_rfl) opens106)))))
structure S28 where
 f0 : Int
 f1 : S26
 f2 : ByteArray
 f3 : ByteArray
def k28 : Kd S28 := Kd.iso (Kd.pair (Kd.int .i64) (Kd.pair k26 (Kd.pair Kd.string Kd.string))) (fun x : S28 => (x.f0, x.f1, x.f2, x.f3))
theorem k28_open {w : World} {x : S28} {cs : List Value} (h : k28.K w x cs) : ∃ A1 c1 A2 c2 A4 c4, cs = [.int .i64 x.f0, .slice A1 x.f1.f0.length c1, .slice A2 x.f1.f1.length c2, .bool x.f1.f2, .slice A4 x.f1.f3.length c4, .string x.f2, .string x.f3] ∧ x.f1.f0.length ≤ c1 ∧ Kd.string.C w A1 x.f1.f0.length x.f1.f0 ∧ x.f1.f1.length ≤ c2 ∧ k108.C w A2 x.f1.f1.length x.f1.f1 ∧ x.f1.f3.length ≤ c4 ∧ k106.C w A4 x.f1.f3.length x.f1.f3 := by
 obtain ⟨_, _, rfl, rfl, ⟨_, _, rfl, h1, ⟨_, _, rfl, rfl, rfl⟩⟩⟩ := h
 obtain ⟨A1, c1, A2, c2, A4, c4, rfl, l1, g1, l2, g2, l4, g4⟩ := k26_open h1
 exact ⟨A1, c1, A2, c2, A4, c4, rfl, l1, g1, l2, g2, l4, g4⟩
def good28 (x : S28) : Prop := (Lit.int .i64 x.f0).wf = true ∧ good26 x.f1 ∧ x.f2.size ≤ 9223372036854775807 ∧ x.f3.size ≤ 9223372036854775807
theorem opens28 : Opens Tryz.prog 28 k28 good28 := Opens.struct (g := fun p => (⟨p.1, p.2.1, p.2.2.1, p.2.2.2⟩ : S28)) (fun _ => rfl) Tryz.underlying28 (by kernel_rfl) (OpensF.cons rfl (by kernel_rfl) (Opens.int Tryz.underlying3) (OpensF.cons rfl (by kernel_rfl) opens26 (OpensF.cons rfl (by kernel_rfl) (Opens.string Tryz.underlying9) (OpensF.one rfl (by kernel_rfl) (Opens.string Tryz.underlying9)))))
end Go.Proofs.YtaakfmpffhfaeaaGreatDoor.M
end

section
/- A delta's text, plain: the program writes what the reference writes. -/
namespace Go.Proofs.YtaakfmpffhfaeaaGreatDoor.M
open Go.RowKit Go.Proofs.YtaakfmpffhfaeaaGreatDoorW.PrintWords Go.Proofs.YtaakfmpffhfaeaaGreatDoor.Pu
set_option linter.unusedVariables false
set_option linter.unusedSimpArgs false
def accB (x : ByteArray) (ys : List ByteArray) : ByteArray := ys.foldl (· ++ ·) x
theorem accB_snoc (x : ByteArray) (ys : List ByteArray) (y : ByteArray) : accB x (ys ++ [y]) = accB x ys ++ y := by simp [accB, List.foldl_append]
theorem acc_size (m : Nat) : ∀ (ys : List ByteArray) (x : ByteArray), (∀ y ∈ ys, y.size ≤ m) → (accB x ys).size ≤ x.size + m * ys.length
 | [], x, _ => by simp [accB]
 | y :: ys, x, h => by
  have ih := acc_size m ys (x ++ y) (fun z hz => h z (List.mem_cons_of_mem _ hz))
  have hy := h y List.mem_cons_self
  have e : accB x (y :: ys) = accB (x ++ y) ys := rfl
  rw [e]
  rw [ByteArray.size_append] at ih
  rw [List.length_cons, Nat.mul_add]
  omega
theorem acc_take {α : Type} (f : α → ByteArray) (x : ByteArray) (l : List α) (i : Nat) (h : i < l.length) : accB x ((l.take (i + 1)).map f) = accB x ((l.take i).map f) ++ f l[i] := by
 rw [List.take_succ_eq_append_getElem h, List.map_append, List.map_cons, List.map_nil, accB_snoc]
theorem word_size {s : ByteArray} (h : wordB s = true) : 1 ≤ s.size ∧ s.size ≤ 12 := by
 simp only [wordB, Bool.and_eq_true, decide_eq_true_eq] at h
 exact ⟨h.1, h.2.1⟩
theorem part_size {s : ByteArray} (h : partB s = true) : s.size ≤ 4 ∧ ∀ j, j < s.size → lowP s j := by
 simp only [partB, Bool.and_eq_true, decide_eq_true_eq] at h
 refine ⟨h.2, ?_⟩
 have h2 := h.1
 unfold lowB at h2
 by_cases c : ∀ j, j < s.size → lowP s j
 ·exact c
 ·rw [if_neg c] at h2
  cases h2
theorem aff_parts {a : Af} (h : affB a = true) : (a.f0.size = 1 ∧ upB (bt a.f0 0) = true) ∧ partB a.f2 = true ∧ partB a.f3 = true ∧ partB a.f4 = true := by
 simp only [affB, flagB, Bool.and_eq_true, decide_eq_true_eq] at h
 exact ⟨h.1, h.2.1, h.2.2.1, h.2.2.2.1⟩
theorem ent_parts {e : En} (h : entB e = true) : wordB e.f0 = true ∧ e.f1.size ≤ 4 ∧ ∀ j, j < e.f1.size → entP e.f1 j := by
 unfold entB at h
 by_cases c : ∀ j, j < e.f1.size → entP e.f1 j
 ·rw [if_pos c] at h
  simp only [Bool.and_eq_true, decide_eq_true_eq] at h
  exact ⟨h.1, h.2, c⟩
 ·rw [if_neg c] at h
  cases h
def affL (a : Af) : By := (if a.f1 = true then [102, 114, 111, 110, 116] else [101, 110, 100]) ++ 32 :: (L a.f0 ++ 32 :: (L a.f2 ++ 32 :: (L a.f3 ++ 32 :: L a.f4)))
theorem affL_len {a : Af} (h : affB a = true) : (affL a).length ≤ 22 := by
 obtain ⟨⟨h0, _⟩, h2, h3, h4⟩ := aff_parts h
 have b2 := (part_size h2).1
 have b3 := (part_size h3).1
 have b4 := (part_size h4).1
 unfold affL
 split <;> simp <;> omega
theorem join5 (x a b c d : ByteArray) (h : x.size + a.size + b.size + c.size + d.size ≤ 1000) : strings_Join.f [x, a, b, c, d] (⟨#[32]⟩ : ByteArray) = some (mk (L x ++ 32 :: (L a ++ 32 :: (L b ++ 32 :: (L c ++ 32 :: L d))))) := by
 have e : Lib.join ([x, a, b, c, d].map (fun y => y.data.toList)) (⟨#[32]⟩ : ByteArray).data.toList = L x ++ 32 :: (L a ++ 32 :: (L b ++ 32 :: (L c ++ 32 :: L d))) := by
  simp only [List.map_cons, List.map_nil]
  rw [Lib.join_cons]
  simp [Lib.joinTail]
 unfold strings_Join.f
 rw [if_pos (by simp), e, if_pos (by
  simp
  omega)]
theorem impl_affixLine_eq {a : Af} (h : affB a = true) : impl_affixLine.f a.f0 a.f1 a.f2 a.f3 a.f4 = some (mk (affL a ++ [10])) := by
 obtain ⟨⟨h0, _⟩, h2, h3, h4⟩ := aff_parts h
 have b2 := (part_size h2).1
 have b3 := (part_size h3).1
 have b4 := (part_size h4).1
 have hl := affL_len h
 unfold impl_affixLine.f affL at *
 cases ha : a.f1
 ·rw [ha] at hl
  simp only [Bool.false_eq_true, if_false] at hl ⊢
  have s0 : (⟨#[101, 110, 100]⟩ : ByteArray).size = 3 := rfl
  rw [join5 _ _ _ _ _ (by rw [s0]; omega)]
  simp only [Option.bind_some]
  rw [if_pos]
  ·congr 1
  ·rw [size_L]
   show (L (mk _)).length + 1 ≤ _
   rw [L_mk]
   refine Nat.le_trans (Nat.succ_le_succ hl) (by omega)
 ·rw [ha] at hl
  simp only [if_true] at hl ⊢
  have s0 : (⟨#[102, 114, 111, 110, 116]⟩ : ByteArray).size = 5 := rfl
  rw [join5 _ _ _ _ _ (by rw [s0]; omega)]
  simp only [Option.bind_some]
  rw [if_pos]
  ·congr 1
  ·rw [size_L]
   show (L (mk _)).length + 1 ≤ _
   rw [L_mk]
   refine Nat.le_trans (Nat.succ_le_succ hl) (by omega)
theorem spec_l2AffixPut_eq {a : Af} (h : affB a = true) : spec_l2AffixPut.f a.f0 a.f1 a.f2 a.f3 a.f4 = some (mk (affL a)) := by
 obtain ⟨⟨h0, _⟩, h2, h3, h4⟩ := aff_parts h
 have b2 := (part_size h2).1
 have b3 := (part_size h3).1
 have b4 := (part_size h4).1
 have s0 : (⟨#[101, 110, 100]⟩ : ByteArray).size = 3 := rfl
 have s1 : (⟨#[102, 114, 111, 110, 116]⟩ : ByteArray).size = 5 := rfl
 have s2 : (⟨#[32]⟩ : ByteArray).size = 1 := rfl
 unfold spec_l2AffixPut.f affL
 cases ha : a.f1
 ·simp only [Bool.false_eq_true, if_false, ByteArray.size_append, s0, s2]
  rw [if_pos (by omega), if_pos (by omega), if_pos (by omega), if_pos (by omega), if_pos (by omega), if_pos (by omega), if_pos (by omega), if_pos (by omega)]
  exact congrArg some (by rw [← L_inj]; simp [L_append, L_mk])
 ·simp only [if_true, ByteArray.size_append, s1, s2]
  rw [if_pos (by omega), if_pos (by omega), if_pos (by omega), if_pos (by omega), if_pos (by omega), if_pos (by omega), if_pos (by omega), if_pos (by omega)]
  exact congrArg some (by rw [← L_inj]; simp [L_append, L_mk])
def entL (e : En) : By := if L e.f1 = [] then L e.f0 else L e.f0 ++ 47 :: L e.f1
theorem entL_len {e : En} (h : entB e = true) : (entL e).length ≤ 17 := by
 obtain ⟨h0, h1, _⟩ := ent_parts h
 have b0 := (word_size h0).2
 unfold entL
 split
 ·rw [size_L] at b0; omega
 ·simp; omega
theorem impl_entryLine_eq {e : En} (h : entB e = true) : impl_entryLine.f e.f0 e.f1 = some (mk (entL e ++ [10])) := by
 obtain ⟨h0, h1, _⟩ := ent_parts h
 have b0 := (word_size h0).2
 have s1 : (⟨#[47]⟩ : ByteArray).size = 1 := rfl
 unfold impl_entryLine.f entL
 rw [toList_L]
 by_cases c : L e.f1 = []
 ·rw [if_pos c, if_pos (by omega), if_pos c]
  exact congrArg some (by rw [← L_inj]; simp [L_append, L_mk])
 ·rw [if_neg c, if_neg c, if_pos (by omega), if_pos (by rw [ByteArray.size_append, s1]; omega), if_pos (by rw [ByteArray.size_append, ByteArray.size_append, s1]; omega)]
  exact congrArg some (by rw [← L_inj]; simp [L_append, L_mk])
theorem spec_l2EntryPut_eq {e : En} (h : entB e = true) : spec_l2EntryPut.f e.f0 e.f1 = some (mk (entL e)) := by
 obtain ⟨h0, h1, _⟩ := ent_parts h
 have b0 := (word_size h0).2
 have s1 : (⟨#[47]⟩ : ByteArray).size = 1 := rfl
 unfold spec_l2EntryPut.f entL
 rw [toList_L]
 by_cases c : L e.f1 = []
 ·rw [if_pos c, if_pos c, mk_L]
 ·rw [if_neg c, if_neg c, if_pos (by omega), if_pos (by rw [ByteArray.size_append, s1]; omega)]
  exact congrArg some (by rw [← L_inj]; simp [L_append, L_mk])
def fA (a : Af) : ByteArray := mk (affL a ++ [10])
def fG (s : ByteArray) : ByteArray := mk (45 :: L s ++ [10])
def fE (e : En) : ByteArray := mk (43 :: entL e ++ [10])
theorem fA_size {a : Af} (h : affB a = true) : (fA a).size ≤ 30 := by
 have := affL_len h
 rw [size_L, fA, L_mk]
 simp; omega
theorem fG_size {s : ByteArray} (h : wordB s = true) : (fG s).size ≤ 30 := by
 have := (word_size h).2
 rw [size_L, fG, L_mk]
 simp; omega
theorem fE_size {e : En} (h : entB e = true) : (fE e).size ≤ 30 := by
 have := entL_len h
 rw [size_L, fE, L_mk]
 simp; omega
def put0 (a : Bool) : ByteArray := if a = true then (⟨#[97, 102, 102, 105, 120, 101, 115, 10]⟩ : ByteArray) else (⟨#[]⟩ : ByteArray)
def dput (g : List ByteArray) (c : List En) (a : Bool) (l : List Af) : ByteArray := accB (accB (accB (put0 a) (l.map fA)) (g.map fG)) (c.map fE)
structure OkD (g : List ByteArray) (c : List En) (a : Bool) (l : List Af) : Prop where
 g1 : g.length ≤ 24
 g2 : ∀ s ∈ g, wordB s = true
 c1 : c.length ≤ 24
 c2 : ∀ e ∈ c, entB e = true
 l1 : l.length ≤ 8
 l2 : ∀ x ∈ l, affB x = true
theorem okD {g : List ByteArray} {c : List En} {a : Bool} {l : List Af} (h : dB g c a l = true) : OkD g c a l := by
 simp only [dB, Bool.and_eq_true] at h
 obtain ⟨hg, hc, hl, _⟩ := h
 have h1 : g.length ≤ 24 ∧ ∀ j, j < g.length → wsP g j := by
  unfold wsB at hg
  split at hg
  ·exact ⟨of_decide_eq_true hg, by assumption⟩
  ·cases hg
 have h2 : c.length ≤ 24 ∧ ∀ j, j < c.length → esP c j := by
  unfold esB at hc
  split at hc
  ·exact ⟨of_decide_eq_true hc, by assumption⟩
  ·cases hc
 have h3 : l.length ≤ 8 ∧ ∀ j, j < l.length → asP l j := by
  unfold asB at hl
  split at hl
  ·exact ⟨of_decide_eq_true hl, by assumption⟩
  ·cases hl
 refine ⟨h1.1, fun s hs => ?_, h2.1, fun e he => ?_, h3.1, fun x hx => ?_⟩
 ·obtain ⟨j, hj, rfl⟩ := List.getElem_of_mem hs
  have := (h1.2 j hj).1
  rwa [sAt_nat g j hj] at this
 ·obtain ⟨j, hj, rfl⟩ := List.getElem_of_mem he
  have := (h2.2 j hj).1
  rwa [eAt_nat c j hj] at this
 ·obtain ⟨j, hj, rfl⟩ := List.getElem_of_mem hx
  have := (h3.2 j hj).1
  rwa [aAt_nat l j hj] at this
theorem acc30 {α : Type} (f : α → ByteArray) (x : ByteArray) (l : List α) (i : Nat) (hl : l.length ≤ 24) (hf : ∀ a ∈ l, (f a).size ≤ 30) : (accB x ((l.take i).map f)).size ≤ x.size + 720 := by
 have h := acc_size 30 ((l.take i).map f) x (fun y hy => by
  obtain ⟨a, ha, rfl⟩ := List.mem_map.1 hy
  exact hf a (List.mem_of_mem_take ha))
 have h2 : ((l.take i).map f).length ≤ 24 := by rw [List.length_map, List.length_take]; omega
 omega
theorem acc30' {α : Type} (f : α → ByteArray) (x : ByteArray) (l : List α) (hl : l.length ≤ 24) (hf : ∀ a ∈ l, (f a).size ≤ 30) : (accB x (l.map f)).size ≤ x.size + 720 := by
 have h := acc30 f x l l.length hl hf
 rwa [List.take_length] at h
theorem put0_size (a : Bool) : (put0 a).size ≤ 8 := by
 unfold put0
 cases a <;> decide
theorem impl_DeltaPut_ev {g : List ByteArray} {c : List En} {a : Bool} {l : List Af} (hs : SmallD g c l) : Ev (fun k => impl_DeltaPut.f k g c a l) (if dB g c a l = true then dput g c a l else (⟨#[]⟩ : ByteArray)) := by
 unfold impl_DeltaPut.f
 refine Ev.bind (impl_DeltaOk_ev g c a l hs) ?_
 cases hd : dB g c a l
 ·simp only [Bool.false_eq_true, if_false]
  exact Ev.now _
 have ok := okD hd
 have g1 := ok.g1
 have c1 := ok.c1
 have l1 := ok.l1
 have s45 : (⟨#[45]⟩ : ByteArray).size = 1 := rfl
 have s43 : (⟨#[43]⟩ : ByteArray).size = 1 := rfl
 have s10 : (⟨#[10]⟩ : ByteArray).size = 1 := rfl
 have p2 : ∀ x : ByteArray, x.size ≤ 10000 → Ev (fun k => impl_DeltaPut.l2 k x c (c.length : Int) 0) (accB x (c.map fE)) := by
  intro x hx
  have h := fold_loop (g := fun k b i => impl_DeltaPut.l2 k b c (c.length : Int) i) c.length (fun i => accB x ((c.take i).map fE)) (accB x (c.map fE)) ?_ ?_
  ·exact h
  ·intro i hi hr
   have he := ok.c2 _ (List.getElem_mem hi)
   have d1 : (i : Int) < (c.length : Int) := by omega
   have d2 : (0 : Int) ≤ (i : Int) := by omega
   have w1 : Aside0 (wrap64 ((i : Int) + 1) = (i : Int) + 1) := ⟨wid (by omega) (by omega)⟩
   have b1 := acc30 fE x c i c1 (fun e h => fE_size (ok.c2 e h))
   have b2 := entL_len he
   have ln := impl_entryLine_eq he
   rw [← eAt_nat c i hi] at ln
   have bs : (mk (entL c[i] ++ [10])).size ≤ 18 := by rw [size_L, L_mk]; simp; omega
   apply Ev.succ
   simp only [impl_DeltaPut.l2, d1, d2, w1.out, ln, Option.bind_some, if_true]
   rw [eAt_nat c i hi]
   refine Ev.ifp (by omega) (Ev.ifp (by rw [ByteArray.size_append, s43]; omega) ?_)
   rw [acc_take fE x c i hi] at hr
   have e : (⟨#[43]⟩ : ByteArray) ++ mk (entL c[i] ++ [10]) = fE c[i] := by rw [← L_inj, L_append]; rfl
   rw [e]
   exact hr
  ·apply Ev.succ
   simp only [impl_DeltaPut.l2, Int.lt_irrefl, if_false, List.take_length]
   exact Ev.now _
 have p1 : ∀ x : ByteArray, x.size ≤ 5000 → Ev (fun k => impl_DeltaPut.l1 k x g (g.length : Int) 0 g c a l) (accB (accB x (g.map fG)) (c.map fE)) := by
  intro x hx
  have h := fold_loop (g := fun k b i => impl_DeltaPut.l1 k b g (g.length : Int) i g c a l) g.length (fun i => accB x ((g.take i).map fG)) (accB (accB x (g.map fG)) (c.map fE)) ?_ ?_
  ·exact h
  ·intro i hi hr
   have he := ok.g2 _ (List.getElem_mem hi)
   have d1 : (i : Int) < (g.length : Int) := by omega
   have d2 : (0 : Int) ≤ (i : Int) := by omega
   have w1 : Aside0 (wrap64 ((i : Int) + 1) = (i : Int) + 1) := ⟨wid (by omega) (by omega)⟩
   have b1 := acc30 fG x g i g1 (fun e h => fG_size (ok.g2 e h))
   have b2 := (word_size he).2
   apply Ev.succ
   simp only [impl_DeltaPut.l1, d1, d2, w1.out, if_true]
   rw [sAt_nat g i hi]
   refine Ev.ifp (by omega) (Ev.ifp (by rw [ByteArray.size_append, s45]; omega) (Ev.ifp (by rw [ByteArray.size_append, ByteArray.size_append, s45, s10]; omega) ?_))
   rw [acc_take fG x g i hi] at hr
   have e : ((⟨#[45]⟩ : ByteArray) ++ g[i]) ++ (⟨#[10]⟩ : ByteArray) = fG g[i] := by rw [← L_inj, L_append, L_append]; rfl
   rw [e]
   exact hr
  ·apply Ev.succ
   simp only [impl_DeltaPut.l1, Int.lt_irrefl, if_false, List.take_length]
   exact p2 _ (Nat.le_trans (acc30' fG x g g1 (fun e h => fG_size (ok.g2 e h))) (by omega))
 have p0 : ∀ x : ByteArray, x.size ≤ 1000 → Ev (fun k => impl_DeltaPut.j0 k x g c a l) (accB (accB (accB x (l.map fA)) (g.map fG)) (c.map fE)) := by
  intro x hx
  apply Ev.succ
  simp only [impl_DeltaPut.j0]
  have h := fold_loop (g := fun k b i => impl_DeltaPut.l0 k b l (l.length : Int) i g c a l) l.length (fun i => accB x ((l.take i).map fA)) (accB (accB (accB x (l.map fA)) (g.map fG)) (c.map fE)) ?_ ?_
  ·exact h
  ·intro i hi hr
   have he := ok.l2 _ (List.getElem_mem hi)
   have d1 : (i : Int) < (l.length : Int) := by omega
   have d2 : (0 : Int) ≤ (i : Int) := by omega
   have w1 : Aside0 (wrap64 ((i : Int) + 1) = (i : Int) + 1) := ⟨wid (by omega) (by omega)⟩
   have b1 := acc30 fA x l i (by omega) (fun e h => fA_size (ok.l2 e h))
   have ln := impl_affixLine_eq he
   rw [← aAt_nat l i hi] at ln
   have bs := fA_size he
   apply Ev.succ
   simp only [impl_DeltaPut.l0, d1, d2, w1.out, ln, Option.bind_some, if_true]
   rw [aAt_nat l i hi]
   unfold fA at bs
   refine Ev.ifp (by omega) ?_
   rw [acc_take fA x l i hi] at hr
   exact hr
  ·apply Ev.succ
   simp only [impl_DeltaPut.l0, Int.lt_irrefl, if_false, List.take_length]
   exact p1 _ (Nat.le_trans (acc30' fA x l (by omega) (fun e h => fA_size (ok.l2 e h))) (by omega))
 simp only [if_true]
 unfold dput put0
 cases a
 ·simp only [Bool.false_eq_true, if_false]
  exact p0 _ (by decide)
 ·simp only [if_true]
  exact p0 _ (by decide)
theorem spec_l5Put_ev {g : List ByteArray} {c : List En} {a : Bool} {l : List Af} (hd : dB g c a l = true) : Ev (fun k => spec_l5Put.f k g c a l) (dput g c a l) := by
 have ok := okD hd
 have g1 := ok.g1
 have c1 := ok.c1
 have l1 := ok.l1
 have s45 : (⟨#[45]⟩ : ByteArray).size = 1 := rfl
 have s43 : (⟨#[43]⟩ : ByteArray).size = 1 := rfl
 have s10 : (⟨#[10]⟩ : ByteArray).size = 1 := rfl
 have p2 : ∀ x : ByteArray, x.size ≤ 10000 → Ev (fun k => spec_l5Put.l2 k x 0 g c a l) (accB x (c.map fE)) := by
  intro x hx
  have h := fold_loop (g := fun k b i => spec_l5Put.l2 k b i g c a l) c.length (fun i => accB x ((c.take i).map fE)) (accB x (c.map fE)) ?_ ?_
  ·exact h
  ·intro i hi hr
   have he := ok.c2 _ (List.getElem_mem hi)
   have d1 : (i : Int) < (c.length : Int) := by omega
   have d2 : (0 : Int) ≤ (i : Int) := by omega
   have w1 : Aside0 (wrap64 ((i : Int) + 1) = (i : Int) + 1) := ⟨wid (by omega) (by omega)⟩
   have b1 := acc30 fE x c i c1 (fun e h => fE_size (ok.c2 e h))
   have b2 := entL_len he
   have ln := spec_l2EntryPut_eq he
   rw [← eAt_nat c i hi] at ln
   have bs : (mk (entL c[i])).size ≤ 18 := by rw [size_L, L_mk]; omega
   have d3 : (accB x ((c.take i).map fE)).size + 1 ≤ 9223372036854775807 := by omega
   apply Ev.succ
   simp only [spec_l5Put.l2, d1, d2, d3, w1.out, ln, Option.bind_some, if_true]
   rw [eAt_nat c i hi]
   refine Ev.ifp (by rw [ByteArray.size_append, s43]; omega) (Ev.ifp (by rw [ByteArray.size_append, ByteArray.size_append, s43]; omega) ?_)
   rw [acc_take fE x c i hi] at hr
   have e : ((accB x ((c.take i).map fE) ++ (⟨#[43]⟩ : ByteArray)) ++ mk (entL c[i])) ++ (⟨#[10]⟩ : ByteArray) = accB x ((c.take i).map fE) ++ fE c[i] := by
    rw [← L_inj]
    simp [L_append, fE, L_mk]
   rw [e]
   exact hr
  ·apply Ev.succ
   simp only [spec_l5Put.l2, Int.lt_irrefl, if_false, List.take_length]
   exact Ev.now _
 have p1 : ∀ x : ByteArray, x.size ≤ 5000 → Ev (fun k => spec_l5Put.l1 k x 0 g c a l) (accB (accB x (g.map fG)) (c.map fE)) := by
  intro x hx
  have h := fold_loop (g := fun k b i => spec_l5Put.l1 k b i g c a l) g.length (fun i => accB x ((g.take i).map fG)) (accB (accB x (g.map fG)) (c.map fE)) ?_ ?_
  ·exact h
  ·intro i hi hr
   have he := ok.g2 _ (List.getElem_mem hi)
   have d1 : (i : Int) < (g.length : Int) := by omega
   have d2 : (0 : Int) ≤ (i : Int) := by omega
   have w1 : Aside0 (wrap64 ((i : Int) + 1) = (i : Int) + 1) := ⟨wid (by omega) (by omega)⟩
   have b1 := acc30 fG x g i g1 (fun e h => fG_size (ok.g2 e h))
   have b2 := (word_size he).2
   have d3 : (accB x ((g.take i).map fG)).size + 1 ≤ 9223372036854775807 := by omega
   apply Ev.succ
   simp only [spec_l5Put.l1, d1, d2, d3, w1.out, if_true]
   rw [sAt_nat g i hi]
   refine Ev.ifp (by rw [ByteArray.size_append, s45]; omega) (Ev.ifp (by rw [ByteArray.size_append, ByteArray.size_append, s45]; omega) ?_)
   rw [acc_take fG x g i hi] at hr
   have e : ((accB x ((g.take i).map fG) ++ (⟨#[45]⟩ : ByteArray)) ++ g[i]) ++ (⟨#[10]⟩ : ByteArray) = accB x ((g.take i).map fG) ++ fG g[i] := by
    rw [← L_inj]
    simp [L_append, fG, L_mk]
   rw [e]
   exact hr
  ·apply Ev.succ
   simp only [spec_l5Put.l1, Int.lt_irrefl, if_false, List.take_length]
   exact p2 _ (Nat.le_trans (acc30' fG x g g1 (fun e h => fG_size (ok.g2 e h))) (by omega))
 have p0 : ∀ x : ByteArray, x.size ≤ 1000 → Ev (fun k => spec_l5Put.j0 k x g c a l) (accB (accB (accB x (l.map fA)) (g.map fG)) (c.map fE)) := by
  intro x hx
  apply Ev.succ
  simp only [spec_l5Put.j0]
  have h := fold_loop (g := fun k b i => spec_l5Put.l0 k b i g c a l) l.length (fun i => accB x ((l.take i).map fA)) (accB (accB (accB x (l.map fA)) (g.map fG)) (c.map fE)) ?_ ?_
  ·exact h
  ·intro i hi hr
   have he := ok.l2 _ (List.getElem_mem hi)
   have d1 : (i : Int) < (l.length : Int) := by omega
   have d2 : (0 : Int) ≤ (i : Int) := by omega
   have w1 : Aside0 (wrap64 ((i : Int) + 1) = (i : Int) + 1) := ⟨wid (by omega) (by omega)⟩
   have b1 := acc30 fA x l i (by omega) (fun e h => fA_size (ok.l2 e h))
   have ln := spec_l2AffixPut_eq he
   rw [← aAt_nat l i hi] at ln
   have b2 := affL_len he
   have bs : (mk (affL l[i])).size ≤ 22 := by rw [size_L, L_mk]; omega
   apply Ev.succ
   simp only [spec_l5Put.l0, d1, d2, w1.out, ln, Option.bind_some, if_true]
   rw [aAt_nat l i hi]
   refine Ev.ifp (by omega) (Ev.ifp (by rw [ByteArray.size_append]; omega) ?_)
   rw [acc_take fA x l i hi] at hr
   have e : (accB x ((l.take i).map fA) ++ mk (affL l[i])) ++ (⟨#[10]⟩ : ByteArray) = accB x ((l.take i).map fA) ++ fA l[i] := by
    rw [← L_inj]
    simp [L_append, fA, L_mk]
   rw [e]
   exact hr
  ·apply Ev.succ
   simp only [spec_l5Put.l0, Int.lt_irrefl, if_false, List.take_length]
   exact p1 _ (Nat.le_trans (acc30' fA x l (by omega) (fun e h => fA_size (ok.l2 e h))) (by omega))
 unfold spec_l5Put.f dput put0
 cases a
 ·simp only [Bool.false_eq_true, if_false]
  exact p0 _ (by decide)
 ·simp only [if_true]
  exact p0 _ (by decide)
end Go.Proofs.YtaakfmpffhfaeaaGreatDoor.M
end

section
/- A release's text, plain: the program writes what the reference writes. -/
namespace Go.Proofs.YtaakfmpffhfaeaaGreatDoor.M
open Go.RowKit Go.Proofs.YtaakfmpffhfaeaaGreatDoorW.PrintWords Go.Proofs.YtaakfmpffhfaeaaGreatDoor.Pu
set_option linter.unusedVariables false
set_option linter.unusedSimpArgs false
theorem getD_lt {α : Type} (l : List α) (d : α) {n : Nat} (h : n < l.length) : l.getD n d = l[n] := by
 simp [List.getD, h]
theorem dw_nil (p : UInt8 → Bool) : ∀ l : By, l.dropWhile p = [] ↔ ∀ b ∈ l, p b = true
 | [] => by simp
 | b :: l => by
  rw [List.dropWhile_cons]
  cases h : p b
  ·simp [h]
  ·simp [h, dw_nil p l]
theorem dw_head (p : UInt8 → Bool) : ∀ (l : By) (b : UInt8) (t : By), l.dropWhile p = b :: t → p b = false
 | [], b, t, h => by simp at h
 | a :: l, b, t, h => by
  rw [List.dropWhile_cons] at h
  cases ha : p a
  ·rw [ha] at h
   simp at h
   rw [← h.1]
   exact ha
  ·rw [ha] at h
   simp at h
   exact dw_head p l b t h
theorem trimS_nil (l cs : By) : Lib.trimS l cs = [] ↔ ∀ b ∈ l, cs.contains b = true := by
 unfold Lib.trimS Lib.trimLeftS Lib.trimRightS
 rw [dw_nil]
 constructor
 ·intro h
  cases e : l.reverse.dropWhile (cs.contains ·) with
  | nil =>
   intro b hb
   exact (dw_nil _ _).1 e b (List.mem_reverse.2 hb)
  | cons b t =>
   have h1 : cs.contains b = false := dw_head _ _ _ _ e
   have h2 : cs.contains b = true := h b (by rw [e]; simp)
   rw [h1] at h2
   cases h2
 ·intro h b hb
  exact h b (List.mem_reverse.1 ((List.dropWhile_sublist _).subset (List.mem_reverse.1 hb)))
def hexL : By := [48, 49, 50, 51, 52, 53, 54, 55, 56, 57, 97, 98, 99, 100, 101, 102]
def digB (s : ByteArray) : Bool := decide (s.size = 64) && (L s).all (fun b => hexL.contains b)
theorem impl_digits_eq (s : ByteArray) : impl_digits.f s = some (digB s) := by
 unfold impl_digits.f digB
 by_cases c : (s.size : Int) = 64
 ·have c' : s.size = 64 := by omega
  rw [if_pos c]
  have e : strings_Trim.f s (⟨#[48, 49, 50, 51, 52, 53, 54, 55, 56, 57, 97, 98, 99, 100, 101, 102]⟩ : ByteArray) = some (mk (Lib.trimS (L s) hexL)) := by
   unfold strings_Trim.f
   rw [if_pos (by omega), if_pos (by decide), if_pos (by decide)]
   rfl
  rw [e, Option.bind_some, toList_L]
  refine congrArg some ?_
  show (Lib.trimS (L s) hexL == []) = _
  rw [Bool.eq_iff_iff]
  simp only [beq_iff_eq, trimS_nil, Bool.and_eq_true, decide_eq_true_eq, List.all_eq_true]
  exact ⟨fun h => ⟨c', h⟩, fun h => h.2⟩
 ·have c' : ¬ s.size = 64 := by omega
  rw [if_neg c]
  simp [c']
theorem fig_fin : ∀ n : Fin 256, spec_l6Figure.f (n.val : Int) = some (hexL.contains (UInt8.ofNat n.val)) := by decide +kernel
theorem fig_ev (b : UInt8) : spec_l6Figure.f (b.toNat : Int) = some (hexL.contains b) := by
 have h := fig_fin ⟨b.toNat, b.toNat_lt⟩
 simpa using h
theorem fig10 : ∀ v : Fin 10, strOfNums [(48 + (v.val : Int)) % 256] = mk [UInt8.ofNat (48 + v.val)] := by decide +kernel
theorem dec_size (u : Nat) (h : u ≤ 9223372036854775807) : (mk (Lib.decDigits u)).size ≤ 21 := by
 rw [size_L, L_mk, ← Lib.itoa_nonneg]
 exact Lib.itoa_length_le _ (by omega) (by omega)
theorem l1Dec_ev (u : Nat) : u ≤ 9223372036854775807 → Ev (fun k => spec_l1Dec.f k (u : Int)) (mk (Lib.decDigits u)) := by
 induction u using Nat.strongRecOn with
 | ind u ih =>
  intro h
  apply Ev.succ
  have c1 : ¬ (u : Int) < -9223372036854775807 := by omega
  have c2 : ¬ (u : Int) < 0 := by omega
  simp only [spec_l1Dec.f, c1, c2, if_false]
  by_cases c3 : u < 10
  ·have w : wrap64 (48 + (u : Int)) = 48 + (u : Int) := wid (by omega) (by omega)
   refine Ev.ifp (by omega) (Ev.cast (Ev.now _) ?_)
   rw [w, Lib.decDigits_one c3]
   exact fig10 ⟨u, c3⟩
  ·have e1 : Int.tdiv (u : Int) 10 = ((u / 10 : Nat) : Int) := by rw [Int.tdiv_eq_ediv_of_nonneg (by omega)]; omega
   have e2 : Int.tmod (u : Int) 10 = ((u % 10 : Nat) : Int) := by rw [Int.tmod_eq_emod_of_nonneg (by omega)]; omega
   have w1 : wrap64 (Int.tdiv (u : Int) 10) = ((u / 10 : Nat) : Int) := by rw [e1]; exact wid (by omega) (by omega)
   have w2 : wrap64 (48 + Int.tmod (u : Int) 10) = 48 + ((u % 10 : Nat) : Int) := by rw [e2]; exact wid (by omega) (by omega)
   refine Ev.ifn (by omega) ?_
   rw [w1, w2]
   refine Ev.bind (ih (u / 10) (by omega) (by omega)) ?_
   simp only [Option.bind_some]
   have hf := fig10 ⟨u % 10, by omega⟩
   rw [hf]
   have hs := dec_size (u / 10) (by omega)
   have h1 : (mk [UInt8.ofNat (48 + u % 10)]).size = 1 := rfl
   refine Ev.cast (Ev.ifp (by rw [h1]; omega) (Ev.now _)) ?_
   rw [← L_inj, L_append, L_mk, L_mk, L_mk]
   conv => rhs; rw [Lib.decDigits, dif_neg c3]
def relT (n : Int) (sum d : ByteArray) : ByteArray := (((((⟨#[114, 101, 108, 101, 97, 115, 101, 32]⟩ : ByteArray) ++ mk (Lib.itoa n)) ++ (⟨#[32]⟩ : ByteArray)) ++ sum) ++ (⟨#[10]⟩ : ByteArray)) ++ d
theorem dput_size {g : List ByteArray} {c : List En} {a : Bool} {l : List Af} (hd : dB g c a l = true) : (dput g c a l).size ≤ 3000 := by
 have ok := okD hd
 have h0 := put0_size a
 have h1 := acc30' fA (put0 a) l (by have := ok.l1; omega) (fun x hx => fA_size (ok.l2 x hx))
 have h2 := acc30' fG (accB (put0 a) (l.map fA)) g (by have := ok.g1; omega) (fun x hx => fG_size (ok.g2 x hx))
 have h3 := acc30' fE (accB (accB (put0 a) (l.map fA)) (g.map fG)) c (by have := ok.c1; omega) (fun x hx => fE_size (ok.c2 x hx))
 unfold dput
 omega
theorem itoa_dec {n : Int} (h0 : 1 ≤ n) : Lib.itoa n = Lib.decDigits n.toNat := by
 unfold Lib.itoa
 rw [if_neg (by omega)]
section
variable {n : Int} {g : List ByteArray} {c : List En} {a : Bool} {l : List Af} {sum sl_ : ByteArray}
theorem impl_text_ev (h0 : 1 ≤ n) (h1 : n ≤ 999999) (hs : SmallD g c l) (hd : dB g c a l = true) (hsum : sum.size = 64) (x : ByteArray) :
  Ev (fun k => impl_Release_text.f k n g c a l sum x) (relT n sum (dput g c a l)) := by
 have z8 : (⟨#[114, 101, 108, 101, 97, 115, 101, 32]⟩ : ByteArray).size = 8 := rfl
 have z1 : (⟨#[32]⟩ : ByteArray).size = 1 := rfl
 have z2 : (⟨#[10]⟩ : ByteArray).size = 1 := rfl
 have zd := dput_size hd
 have zi : (mk (Lib.itoa n)).size ≤ 21 := by rw [itoa_dec h0]; exact dec_size _ (by omega)
 unfold impl_Release_text.f
 have e : strconv_Itoa.f n = some (mk (Lib.itoa n)) := by
  unfold strconv_Itoa.f
  rw [if_pos (by omega), if_pos (by omega)]
 rw [e]
 simp only [Option.bind_some]
 refine Ev.ifp (by omega) (Ev.ifp (by simp only [ByteArray.size_append]; omega) (Ev.ifp (by simp only [ByteArray.size_append]; omega) (Ev.ifp (by simp only [ByteArray.size_append]; omega) ?_)))
 exact Ev.bind (Ev.cast (impl_DeltaPut_ev hs) (if_pos hd)) (Ev.ifp (by simp only [ByteArray.size_append]; omega) (Ev.now _))
theorem spec_text_ev (h0 : 1 ≤ n) (h1 : n ≤ 999999) (hd : dB g c a l = true) (hsum : sum.size = 64) (x : ByteArray) :
  Ev (fun k => spec_l6Text.f k n g c a l sum x) (relT n sum (dput g c a l)) := by
 have z8 : (⟨#[114, 101, 108, 101, 97, 115, 101, 32]⟩ : ByteArray).size = 8 := rfl
 have z1 : (⟨#[32]⟩ : ByteArray).size = 1 := rfl
 have z2 : (⟨#[10]⟩ : ByteArray).size = 1 := rfl
 have zd := dput_size hd
 have zi : (mk (Lib.itoa n)).size ≤ 21 := by rw [itoa_dec h0]; exact dec_size _ (by omega)
 unfold spec_l6Text.f
 have e := l1Dec_ev n.toNat (by omega)
 rw [← itoa_dec h0, show ((n.toNat : Nat) : Int) = n from by omega] at e
 refine Ev.bind e ?_
 refine Ev.ifp (by omega) (Ev.ifp (by simp only [ByteArray.size_append]; omega) (Ev.ifp (by simp only [ByteArray.size_append]; omega) (Ev.ifp (by simp only [ByteArray.size_append]; omega) ?_)))
 exact Ev.bind (spec_l5Put_ev hd) (Ev.ifp (by simp only [ByteArray.size_append]; omega) (Ev.now _))
end
def relB (n : Int) (g : List ByteArray) (c : List En) (a : Bool) (l : List Af) (sum sl_ : ByteArray) : Bool :=
 decide (1 ≤ n) && (decide (n ≤ 999999) && (dB g c a l && (digB sum && (digB sl_ && decide (((relT n sum (dput g c a l)).size : Int) ≤ 1200)))))
section
variable {n : Int} {g : List ByteArray} {c : List En} {a : Bool} {l : List Af} {sum sl_ : ByteArray}
theorem dig_size {s : ByteArray} (h : digB s = true) : s.size = 64 := by
 simp only [digB, Bool.and_eq_true, decide_eq_true_eq] at h
 exact h.1
theorem impl_form_ev (hs : SmallD g c l) : Ev (fun k => impl_Release_wellFormed.f k n g c a l sum sl_) (relB n g c a l sum sl_) := by
 unfold impl_Release_wellFormed.f impl_within.f
 by_cases c1 : n ≥ 1
 ·simp only [c1, if_true, Option.bind_some, decide_eq_true_eq]
  by_cases c2 : n ≤ 999999
  ·refine Ev.ifp c2 (Ev.bind (impl_DeltaOk_ev g c a l hs) ?_)
   cases hd : dB g c a l
   ·exact Ev.cast (Ev.ifn Bool.false_ne_true (Ev.now _)) (by simp [relB, hd])
   refine Ev.ifp rfl ?_
   simp only [impl_digits_eq, Option.bind_some]
   cases h1 : digB sum
   ·exact Ev.cast (Ev.ifn Bool.false_ne_true (Ev.now _)) (by simp [relB, h1])
   refine Ev.ifp rfl ?_
   cases h2 : digB sl_
   ·exact Ev.cast (Ev.ifn Bool.false_ne_true (Ev.now _)) (by simp [relB, h2])
   refine Ev.ifp rfl ?_
   refine Ev.bind (impl_text_ev c1 c2 hs hd (dig_size h1) sl_) (Ev.cast (Ev.now _) ?_)
   have c1' : 1 ≤ n := c1
   simp [relB, c1', c2, hd, h1, h2]
  ·exact Ev.cast (Ev.ifn c2 (Ev.now _)) (by simp [relB, c2])
 ·have c1' : ¬ 1 ≤ n := c1
  simp only [c1, if_false, Option.bind_some]
  exact Ev.cast (Ev.ifn Bool.false_ne_true (Ev.now _)) (by simp [relB, c1'])
theorem dig_all {s : ByteArray} (h : s.size = 64) : digB s = true ↔ ∀ j, j < 64 → hexL.contains ((L s).getD j 0) = true := by
 have hl : (L s).length = 64 := by rw [← size_L]; exact h
 simp only [digB, h, decide_true, Bool.true_and, List.all_eq_true]
 constructor
 ·intro z j hj
  have e : (L s).getD j 0 = (L s)[j]'(by omega) := getD_lt _ _ (by omega)
  rw [e]
  exact z _ (List.getElem_mem _)
 ·intro z b hb
  obtain ⟨j, hj, rfl⟩ := List.mem_iff_getElem.1 hb
  have e : (L s).getD j 0 = (L s)[j] := getD_lt _ _ hj
  rw [← e]
  exact z j (by omega)
theorem spec_form_ev (hs : SmallD g c l) : Ev (fun k => spec_l6Form.f k n g c a l sum sl_) (relB n g c a l sum sl_) := by
 have no : Ev (fun k => spec_l6Form.j0 k true n g c a l sum sl_) false := by
  apply Ev.succ
  simp only [spec_l6Form.j0, if_true]
  exact Ev.now _
 unfold spec_l6Form.f spec_l1In.f
 by_cases c1 : n ≥ 1
 ·have c1' : 1 ≤ n := c1
  simp only [c1, if_true, Option.bind_some, decide_eq_true_eq]
  by_cases c2 : n ≤ 999999
  ·refine Ev.ifp c2 (Ev.bind (spec_DeltaOk_ev g c a l hs) ?_)
   cases hd : dB g c a l
   ·exact Ev.cast (Ev.ifn Bool.false_ne_true no) (by simp [relB, hd])
   refine Ev.ifp rfl ?_
   by_cases c3 : (sum.size : Int) = 64
   ·refine Ev.ifp c3 ?_
    have c3' : sum.size = 64 := by omega
    by_cases c4 : (sl_.size : Int) = 64
    ·have c4' : sl_.size = 64 := by omega
     have e : ((sl_.size : Int) != 64) = false := by simp [c4]
     rw [e]
     apply Ev.succ
     simp only [spec_l6Form.j0, Bool.false_eq_true, if_false]
     have key := all_loop (g := fun k x => spec_l6Form.l0 k x n g c a l sum sl_) 64 (fun j => hexL.contains ((L sum).getD j 0) = true ∧ hexL.contains ((L sl_).getD j 0) = true) false (decide (((relT n sum (dput g c a l)).size : Int) ≤ 1200)) ?_ ?_ ?_
     ·refine Ev.cast key ?_
      by_cases z : digB sum = true ∧ digB sl_ = true
      ·rw [if_pos (fun j hj => ⟨(dig_all c3').1 z.1 j hj, (dig_all c4').1 z.2 j hj⟩)]
       simp [relB, c1', c2, hd, z.1, z.2]
      ·rw [if_neg (fun q => z ⟨(dig_all c3').2 (fun j hj => (q j hj).1), (dig_all c4').2 (fun j hj => (q j hj).2)⟩)]
       cases z1 : digB sum
       ·simp [relB, z1]
       ·cases z2 : digB sl_
        ·simp [relB, z2]
        ·exact absurd ⟨z1, z2⟩ z
     ·intro i r hi hp hr
      have i1 : (i : Int) < 64 := by omega
      have i2 : (0 : Int) ≤ (i : Int) := by omega
      have i3 : (i : Int) < (sum.size : Int) := by omega
      have i4 : (i : Int) < (sl_.size : Int) := by omega
      have l1 : i < (L sum).length := by rw [← size_L]; omega
      have l2 : i < (L sl_).length := by rw [← size_L]; omega
      have e1 : (L sum).getD i 0 = (L sum)[i] := getD_lt _ _ l1
      have e2 : (L sl_).getD i 0 = (L sl_)[i] := getD_lt _ _ l2
      have w1 : wrap64 ((i : Int) + 1) = (i : Int) + 1 := wid (by omega) (by omega)
      obtain ⟨p1, p2⟩ := hp
      rw [e1] at p1
      rw [e2] at p2
      apply Ev.succ
      simp only [spec_l6Form.l0, i1, i2, i3, i4, w1, bt_L sum i l1, bt_L sl_ i l2, fig_ev, p1, p2, if_true, Option.bind_some]
      exact hr
     ·intro i hi hp
      have i1 : (i : Int) < 64 := by omega
      have i2 : (0 : Int) ≤ (i : Int) := by omega
      have i3 : (i : Int) < (sum.size : Int) := by omega
      have i4 : (i : Int) < (sl_.size : Int) := by omega
      have l1 : i < (L sum).length := by rw [← size_L]; omega
      have l2 : i < (L sl_).length := by rw [← size_L]; omega
      have e1 : (L sum).getD i 0 = (L sum)[i] := getD_lt _ _ l1
      have e2 : (L sl_).getD i 0 = (L sl_)[i] := getD_lt _ _ l2
      rw [e1, e2] at hp
      apply Ev.succ
      cases p1 : hexL.contains (L sum)[i]
      ·simp only [spec_l6Form.l0, i1, i2, i3, i4, bt_L sum i l1, bt_L sl_ i l2, fig_ev, p1, if_true, Option.bind_some, Bool.false_eq_true, if_false]
       exact Ev.now _
      ·cases p2 : hexL.contains (L sl_)[i]
       ·simp only [spec_l6Form.l0, i1, i2, i3, i4, bt_L sum i l1, bt_L sl_ i l2, fig_ev, p1, p2, if_true, Option.bind_some, Bool.false_eq_true, if_false]
        exact Ev.now _
       ·exact absurd ⟨p1, p2⟩ hp
     ·apply Ev.succ
      have i1 : ¬ ((64 : Nat) : Int) < 64 := by omega
      simp only [spec_l6Form.l0, i1, if_false]
      cases h1 : digB sum
      all_goals exact Ev.bind (spec_text_ev c1' c2 hd c3' sl_) (Ev.now _)
    ·have c4' : ¬ sl_.size = 64 := by omega
     have e : ((sl_.size : Int) != 64) = true := by simp [c4]
     rw [e]
     exact Ev.cast no (by simp [relB, digB, c4'])
   ·have c3' : ¬ sum.size = 64 := by omega
    exact Ev.cast (Ev.ifn c3 no) (by simp [relB, digB, c3'])
  ·exact Ev.cast (Ev.ifn c2 no) (by simp [relB, c2])
 ·have c1' : ¬ 1 ≤ n := c1
  simp only [c1, if_false, Option.bind_some]
  exact Ev.cast (Ev.ifn Bool.false_ne_true no) (by simp [relB, c1'])
theorem rel_parts (h : relB n g c a l sum sl_ = true) : 1 ≤ n ∧ n ≤ 999999 ∧ dB g c a l = true ∧ digB sum = true ∧ digB sl_ = true ∧ ((relT n sum (dput g c a l)).size : Int) ≤ 1200 := by
 simp only [relB, Bool.and_eq_true, decide_eq_true_eq] at h
 exact h
end
end Go.Proofs.YtaakfmpffhfaeaaGreatDoor.M
end

section
/- A release of the laws: how much it holds, what it is turned into, that it is like itself, plain. -/
namespace Go.Proofs.YtaakfmpffhfaeaaGreatDoor.M
open Go.RowKit Go.Proofs.YtaakfmpffhfaeaaGreatDoorW.PrintWords Go.Proofs.YtaakfmpffhfaeaaGreatDoor.Pu
set_option linter.unusedVariables false
set_option linter.unusedSimpArgs false
theorem szD_small {g : List ByteArray} {c : List LE} {l : List LA} (h : SzD g c l) : SmallD g (c.map cE) (l.map cA) := by
 obtain ⟨g1, g2, c1, c2, l1, l2⟩ := h
 simp only [Sz] at g1 g2 c1 c2 l1 l2
 refine ⟨by simp only [Small]; omega, fun s hs => by have := g2 s hs; simp only [Small]; omega, by simp only [Small, List.length_map]; omega, fun e he => ?_, by simp only [Small, List.length_map]; omega, fun e he => ?_⟩
 ·obtain ⟨y, hy, rfl⟩ := List.mem_map.1 he
  have := c2 y hy
  exact ⟨by simp only [cE, Small]; omega, by simp only [cE, Small]; omega⟩
 ·obtain ⟨y, hy, rfl⟩ := List.mem_map.1 he
  have := l2 y hy
  exact ⟨by simp only [cA, Small]; omega, by simp only [cA, Small]; omega, by simp only [cA, Small]; omega, by simp only [cA, Small]; omega⟩
theorem szR_ev (n : Int) (g : List ByteArray) (c : List LE) (b : Bool) (l : List LA) (sum sl_ : ByteArray) (hg : g.length ≤ 9223372036854775807) (hg2 : ∀ y ∈ g, y.size ≤ 9223372036854775807)
  (hc : c.length ≤ 9223372036854775807) (hc2 : ∀ y ∈ c, y.f0.size ≤ 9223372036854775807 ∧ y.f1.size ≤ 9223372036854775807)
  (hl : l.length ≤ 9223372036854775807) (hl2 : ∀ y ∈ l, y.f0.size ≤ 9223372036854775807 ∧ y.f2.size ≤ 9223372036854775807 ∧ y.f3.size ≤ 9223372036854775807 ∧ y.f4.size ≤ 9223372036854775807)
  (h2 : sum.size ≤ 9223372036854775807) (h3 : sl_.size ≤ 9223372036854775807) :
  ∃ r : Int, Ev (fun k => laws_szRelease.f k n g c b l sum sl_ 1048576) r ∧ (r = -1 ∨ (0 ≤ r ∧ SzD g c l ∧ Sz sum.size ∧ Sz sl_.size)) := by
 unfold laws_szRelease.f
 obtain ⟨r, e, h⟩ := szD_ev g c b l hg hg2 hc hc2 hl hl2 1048576 (by omega) (by omega)
 by_cases z : r < 0
 ·exact ⟨-1, Ev.bind e (Ev.ifp z (Ev.now _)), .inl rfl⟩
 obtain ⟨r0, r1, hd⟩ := h.resolve_left (by omega)
 have w1 : wrap64 (r - (sum.size : Int)) = r - (sum.size : Int) := wid (by omega) (by omega)
 by_cases z2 : r - (sum.size : Int) < 0
 ·exact ⟨-1, Ev.bind e (Ev.ifn z (Ev.ifp (by rw [w1]; exact z2) (Ev.now _))), .inl rfl⟩
 have w2 : wrap64 (r - (sum.size : Int) - (sl_.size : Int)) = r - (sum.size : Int) - (sl_.size : Int) := wid (by omega) (by omega)
 by_cases z3 : r - (sum.size : Int) - (sl_.size : Int) < 0
 ·exact ⟨-1, Ev.bind e (Ev.ifn z (Ev.ifn (by rw [w1]; exact z2) (Ev.ifp (by rw [w1, w2]; exact z3) (Ev.now _)))), .inl rfl⟩
 ·exact ⟨r - (sum.size : Int) - (sl_.size : Int), Ev.bind e (Ev.ifn z (Ev.ifn (by rw [w1]; exact z2) (Ev.ifn (by rw [w1, w2]; exact z3) (Ev.cast (Ev.now _) (by rw [w1, w2]))))), .inr ⟨by omega, hd, by simp only [Sz]; omega, by simp only [Sz]; omega⟩⟩
theorem eqS_refl (l : List ByteArray) (hl : Small l.length) : Ev (fun k => laws_eqStringS.f k l l) true := by
 unfold laws_eqStringS.f
 refine Ev.ifp rfl ?_
 have key := all_loop (g := fun k x => laws_eqStringS.l0 k l l x) l.length (fun _ => True) true true ?_ ?_ ?_
 ·exact Ev.cast key (by simp)
 ·intro i r hi _ hr
  have c1 : (i : Int) < (l.length : Int) := by omega
  have c2 : (0 : Int) ≤ (i : Int) := by omega
  have w1 : Aside0 (wrap64 ((i : Int) + 1) = (i : Int) + 1) := ⟨wid (by omega) (by simp [Small] at hl; omega)⟩
  apply Ev.succ
  simp only [laws_eqStringS.l0, c1, c2, w1.out, if_true]
  exact hr
 ·intro i hi h
  exact absurd trivial h
 ·apply Ev.succ
  simp only [laws_eqStringS.l0, Int.lt_irrefl, if_false]
  exact Ev.now _
theorem eqE_refl (l : List En) (hl : Small l.length) : Ev (fun k => laws_eqEntryS.f k l l) true := by
 unfold laws_eqEntryS.f
 refine Ev.ifp rfl ?_
 have key := all_loop (g := fun k x => laws_eqEntryS.l0 k l l x) l.length (fun _ => True) true true ?_ ?_ ?_
 ·exact Ev.cast key (by simp)
 ·intro i r hi _ hr
  have c1 : (i : Int) < (l.length : Int) := by omega
  have c2 : (0 : Int) ≤ (i : Int) := by omega
  have w1 : Aside0 (wrap64 ((i : Int) + 1) = (i : Int) + 1) := ⟨wid (by omega) (by simp [Small] at hl; omega)⟩
  apply Ev.succ
  simp only [laws_eqEntryS.l0, laws_eqEntry.f, c1, c2, w1.out, if_true, Option.bind_some]
  exact hr
 ·intro i hi h
  exact absurd trivial h
 ·apply Ev.succ
  simp only [laws_eqEntryS.l0, Int.lt_irrefl, if_false]
  exact Ev.now _
theorem eqA_refl (l : List Af) (hl : Small l.length) : Ev (fun k => laws_eqAffixS.f k l l) true := by
 unfold laws_eqAffixS.f
 refine Ev.ifp rfl ?_
 have key := all_loop (g := fun k x => laws_eqAffixS.l0 k l l x) l.length (fun _ => True) true true ?_ ?_ ?_
 ·exact Ev.cast key (by simp)
 ·intro i r hi _ hr
  have c1 : (i : Int) < (l.length : Int) := by omega
  have c2 : (0 : Int) ≤ (i : Int) := by omega
  have w1 : Aside0 (wrap64 ((i : Int) + 1) = (i : Int) + 1) := ⟨wid (by omega) (by simp [Small] at hl; omega)⟩
  apply Ev.succ
  simp only [laws_eqAffixS.l0, laws_eqAffix.f, c1, c2, w1.out, if_true, bne_self_eq_false, Bool.false_eq_true, if_false, Option.bind_some]
  exact hr
 ·intro i hi h
  exact absurd trivial h
 ·apply Ev.succ
  simp only [laws_eqAffixS.l0, Int.lt_irrefl, if_false]
  exact Ev.now _
theorem eqD_refl (g : List ByteArray) (c : List En) (b : Bool) (l : List Af) (hg : Small g.length) (hc : Small c.length) (hl : Small l.length) : Ev (fun k => laws_eqDelta.f k g c b l g c b l) true := by
 unfold laws_eqDelta.f
 refine Ev.bind (eqS_refl g hg) ?_
 simp only [if_true]
 refine Ev.bind (eqE_refl c hc) ?_
 simp only [if_true, bne_self_eq_false, Bool.false_eq_true, if_false]
 refine Ev.bind (eqA_refl l hl) ?_
 simp only [if_true]
 exact Ev.now _
theorem toR_ev (n : Int) (g : List ByteArray) (c : List LE) (b : Bool) (l : List LA) (sum sl_ : ByteArray) (h : SzD g c l) : Ev (fun k => laws_toRelease.f k n g c b l sum sl_) (n, g, c.map cE, b, l.map cA, sum, sl_) := by
 unfold laws_toRelease.f
 exact Ev.bind (toD_ev g c b l h) (Ev.now _)
theorem eqR_refl (n : Int) (g : List ByteArray) (c : List En) (b : Bool) (l : List Af) (sum sl_ : ByteArray) (hg : Small g.length) (hc : Small c.length) (hl : Small l.length) : Ev (fun k => laws_eqRelease.f k n g c b l sum sl_ n g c b l sum sl_) true := by
 unfold laws_eqRelease.f
 refine Ev.ifp rfl (Ev.bind (eqD_refl g c b l hg hc hl) ?_)
 exact Ev.ifp rfl (Ev.ifp rfl (Ev.ifp rfl (Ev.now _)))
end Go.Proofs.YtaakfmpffhfaeaaGreatDoor.M
end

section
/- FnExactReleaseOk, plain: for every key and release the law answers true. -/
namespace Go.Proofs.YtaakfmpffhfaeaaGreatDoor.M
open Go.RowKit Go.Proofs.YtaakfmpffhfaeaaGreatDoorW.PrintWords Go.Proofs.YtaakfmpffhfaeaaGreatDoor.Pu
set_option linter.unusedVariables false
set_option linter.unusedSimpArgs false
theorem beq_swap (a b : List UInt8) : (a == b) = (b == a) := by
 rw [Bool.eq_iff_iff, beq_iff_eq, beq_iff_eq]
 exact eq_comm
section
variable {n : Int} {g : List ByteArray} {c : List En} {a : Bool} {l : List Af} {sum sl_ : ByteArray}
def okR (key : ByteArray) (n : Int) (g : List ByteArray) (c : List En) (a : Bool) (l : List Af) (sum sl_ : ByteArray) : Bool :=
 keyB key && (relB n g c a l sum sl_ && (sl_.toList == (sealOf key (relT n sum (dput g c a l))).toList))
theorem impl_ReleaseOk_ev (key : ByteArray) (hk : key.size ≤ 140737488355328) (hs : SmallD g c l) : Ev (fun k => impl_ReleaseOk.f k key n g c a l sum sl_) (okR key n g c a l sum sl_) := by
 unfold impl_ReleaseOk.f okR
 rw [implKey_eq key hk]
 simp only [Option.bind_some]
 cases keyB key
 ·exact Ev.cast (Ev.ifn Bool.false_ne_true (Ev.now _)) rfl
 refine Ev.ifp rfl (Ev.bind (impl_form_ev hs) ?_)
 cases h : relB n g c a l sum sl_
 ·exact Ev.cast (Ev.ifn Bool.false_ne_true (Ev.now _)) rfl
 obtain ⟨h1, h2, h3, h4, h5, h6⟩ := rel_parts h
 refine Ev.ifp rfl (Ev.bind (impl_text_ev h1 h2 hs h3 (dig_size h4) sl_) (Ev.bind (implSeal_ev key _ hk (by omega)) (Ev.cast (Ev.now _) ?_)))
 simp
theorem spec_ReleaseOk_ev (key : ByteArray) (hk : key.size ≤ 140737488355328) (hs : SmallD g c l) : Ev (fun k => spec_ReleaseOk.f k key n g c a l sum sl_) (okR key n g c a l sum sl_) := by
 unfold spec_ReleaseOk.f okR
 rw [specKey_eq key hk]
 simp only [Option.bind_some]
 cases keyB key
 ·exact Ev.cast (Ev.ifn Bool.false_ne_true (Ev.now _)) rfl
 refine Ev.ifp rfl (Ev.bind (spec_form_ev hs) ?_)
 cases h : relB n g c a l sum sl_
 ·exact Ev.cast (Ev.ifn Bool.false_ne_true (Ev.now _)) rfl
 obtain ⟨h1, h2, h3, h4, h5, h6⟩ := rel_parts h
 refine Ev.ifp rfl (Ev.bind (spec_text_ev h1 h2 h3 (dig_size h4) sl_) (Ev.bind (specSeal_ev key _ hk (by omega)) (Ev.cast (Ev.now _) ?_)))
 exact beq_swap _ _
end
theorem FnExactReleaseOk_pure (key : ByteArray) (hk : key.size ≤ 140737488351232) (x : S28) (hx : good28 x) : ∃ k, laws_FnExactReleaseOk.f k key x.f0 x.f1.f0 x.f1.f1 x.f1.f2 x.f1.f3 x.f2 x.f3 = some true := by
 obtain ⟨n, ⟨g, c, b, l⟩, sum, sl_⟩ := x
 obtain ⟨hn, ⟨⟨g1, g2⟩, ⟨c1, c2⟩, _, ⟨l1, l2⟩⟩, h2, h3⟩ := hx
 refine Ev.rounds ?_
 show Ev (fun k => laws_FnExactReleaseOk.f k key n g c b l sum sl_) true
 unfold laws_FnExactReleaseOk.f
 by_cases z0 : (key.size : Int) > 1048576
 ·exact Ev.ifp z0 (Ev.now _)
 refine Ev.ifn z0 ?_
 obtain ⟨r, e, h⟩ := szR_ev n g c b l sum sl_ g1 g2 c1 (fun y hy => c2 y hy) l1 (fun y hy => ⟨(l2 y hy).1, (l2 y hy).2.2.1, (l2 y hy).2.2.2.1, (l2 y hy).2.2.2.2⟩) h2 h3
 refine Ev.bind e ?_
 by_cases z : r < 0
 ·exact Ev.ifp z (Ev.now _)
 obtain ⟨r0, hd, s2, s3⟩ := h.resolve_left (by omega)
 have hs := szD_small hd
 have t := toR_ev n g c b l sum sl_ hd
 refine Ev.ifn z (Ev.bind t (Ev.bind (spec_ReleaseOk_ev key (by omega) hs) (Ev.bind t (Ev.bind (impl_ReleaseOk_ev key (by omega) hs) ?_))))
 simp only [bne_self_eq_false, Bool.false_eq_true, if_false, if_true]
 exact Ev.bind t (Ev.bind (eqR_refl _ _ _ _ _ _ _ hs.g1 hs.c1 hs.l1) (Ev.ifp rfl (Ev.now _)))
end Go.Proofs.YtaakfmpffhfaeaaGreatDoor.M
end

section
/- What a row that lists package variables gives, and that these read behind a call as before. -/
namespace Go.Proofs.YtaakfmpffhfaeaaGreatDoor.Frame
open Go.RowKit Go.ChangeShapes
set_option linter.unusedVariables false
theorem tabIs_of_vars {P : Program} {W : World} {name : String} {k : IntKind} {zs : List Int} {g : Nat} {t e : TypeId} {n : Nat}
  (hg : P.globalNamed name = some g) (hty : (P.globals[g]?).map (·.type) = some t) (ht : P.underlying t = some (.array n e)) (he : P.underlying e = some (.int k)) (hce : P.cellsOf e = 1) (hct : P.cellsOf t = n) :
  ∀ (l : List (String × DataW Unit)) (ps : List MemPlace), DataW.LaidVars P W l ps → (name, Lib.tabData k zs) ∈ l → Lib.TabIs P W name k zs
 | [], _, _, hm => by simp at hm
 | (n', d') :: rest, ps, ⟨g', t', cs, fuel, p, q, hg', ht', hvar, hd, hrest, _⟩, hm => by
  rcases List.mem_cons.1 hm with h | h
  ·injection h with h1 h2
   subst h1
   subst h2
   obtain rfl := Option.some.inj (hg.symm.trans hg')
   obtain rfl := Option.some.inj (hty.symm.trans ht')
   unfold Lib.TabIs
   rw [hvar, ← Lib.cells_of_tab ht he hce hct hd]
  ·exact tabIs_of_vars hg hty ht he hce hct rest q hrest h
theorem tabIs_of_mem {P : Program} {W : World} {name : String} {k : IntKind} {zs : List Int} {g : Nat} {t e : TypeId} {n : Nat} {l : List (String × DataW Unit)}
  (hg : P.globalNamed name = some g) (hty : (P.globals[g]?).map (·.type) = some t) (ht : P.underlying t = some (.array n e)) (he : P.underlying e = some (.int k)) (hce : P.cellsOf e = 1) (hct : P.cellsOf t = n)
  (h : laidMet P l W) (hm : (name, Lib.tabData k zs) ∈ l) : Lib.TabIs P W name k zs := by
 obtain ⟨ps, hv, _⟩ := h
 exact tabIs_of_vars hg hty ht he hce hct l ps hv hm
theorem varBelow {P : Program} {W W' : World} {n : String} {cs : Array Value} (h : Below W.heap.size W W') (hv : W.var? P n = some cs) : W'.var? P n = some cs := by
 unfold World.var? at hv ⊢
 cases hg : P.globalNamed n with
 | none => simp [hg] at hv
 | some g =>
  simp only [hg, Option.bind_some] at hv ⊢
  have hlt : g < W.heap.size := by
   rcases Nat.lt_or_ge g W.heap.size with h' | h'
   ·exact h'
   ·rw [Array.getElem?_eq_none h'] at hv
    simp at hv
  rw [h.block g hlt]
  exact hv
theorem trodVars_below {H : Type} {enc : TypeId × Value → H} {P : Program} (hl : laidOutB P = true) {W W' : World} (hb : Below W.heap.size W W') :
  ∀ (vars : List String) (gs : List (DataW H)) (q : List MemPlace), DataW.TrodVars enc P W (fun _ => true) vars gs q →
   (∀ n ∈ vars, ∀ g t, P.globalNamed n = some g → (P.globals[g]?).map (·.type) = some t → P.readableRec t = true ∧ t < P.types.size) →
   ∃ pv, DataW.TrodVars enc P W' (fun b => decide (b < W.heap.size)) vars gs pv
 | [], [], q, h, _ => ⟨q, h⟩
 | [], _ :: _, q, h, _ => by simp [DataW.TrodVars] at h
 | _ :: _, [], q, h, _ => by simp [DataW.TrodVars] at h
 | n :: ns, d :: ds, ps, ⟨g, t, cs, fuel, p, q, hg, ht, hvar, hd, hrest, _⟩, hr => by
  obtain ⟨pv, hpv⟩ := trodVars_below hl hb ns ds q hrest (fun m hm => hr m (List.mem_cons_of_mem _ hm))
  obtain ⟨h1, h2⟩ := hr n List.mem_cons_self g t hg ht
  have hT : DataW.Trod enc P W 0 (fun _ => true) true t (.agg cs) d p := ⟨fuel, hd⟩
  obtain ⟨fuel', hd'⟩ := Below.trod hl h1 h2 hT hb (fun x hx => DataW.trod_lt fuel _ _ _ hd x hx)
  exact ⟨_, g, t, cs, fuel', p, pv, hg, ht, varBelow hb hvar, hd', hpv, rfl⟩
theorem trodVars_cons' {H : Type} {enc : TypeId × Value → H} {P : Program} {W : World} {sp : Nat → Bool} {n : String} {ns : List String} {gs : List (DataW H)} {q : List MemPlace} (h : DataW.TrodVars enc P W sp (n :: ns) gs q) :
  ∃ d ds q', gs = d :: ds ∧ DataW.TrodVars enc P W sp ns ds q' := by
 cases gs with
 | nil => simp [DataW.TrodVars] at h
 | cons d ds =>
  obtain ⟨g, t, cs, fuel, p, q', _, _, _, _, hrest, _⟩ := h
  exact ⟨d, ds, q', rfl, hrest⟩
end Go.Proofs.YtaakfmpffhfaeaaGreatDoor.Frame
end

section
/- 'FnExactReleaseOk': for every input it returns true and its arguments read as before. Conditions: those of the given row alone (the listed package variables as the program's text lays them). -/
namespace Go.Proofs.YtaakfmpffhfaeaaGreatDoor.fnExactReleaseOk
open Go.ChangeShapes Go.WideShapes Go.ChangeAt Go.RowKit
open Go.ChangeMaps (open_string shut_string)
open Go.Proofs.YtaakfmpffhfaeaaGreatDoor.M Go.Proofs.YtaakfmpffhfaeaaGreatDoor.Frame Go.Proofs.YtaakfmpffhfaeaaGreatDoorW.PrintWords
set_option linter.unusedVariables false
theorem own : ownKnob Tryz.prog.godebug = none := by kernel_rfl
theorem laidOut : laidOutB Tryz.prog = true := by kernel_rfl
theorem varsOk : ∀ n ∈ (["loop.example/medlar/impl.shaStep"] : List String), ∀ g t, Tryz.prog.globalNamed n = some g → (Tryz.prog.globals[g]?).map (·.type) = some t → Tryz.prog.readableRec t = true ∧ t < Tryz.prog.types.size := by
 intro n hn g t hg ht
 simp only [List.mem_cons, List.not_mem_nil, or_false] at hn
 subst hn
 ·obtain rfl := Option.some.inj ((show Tryz.prog.globalNamed "loop.example/medlar/impl.shaStep" = some 0 by kernel_rfl).symm.trans hg)
  obtain rfl := Option.some.inj ((show (Tryz.prog.globals[0]?).map (·.type) = some 148 by kernel_rfl).symm.trans ht)
  exact ⟨by kernel_rfl, of_decide_eq_true (by kernel_rfl)⟩
set_option maxRecDepth 100000 in
theorem contract (H : Type) (enc : TypeId × Value → H) (W : World) (base : Nat) (args : Array Value) (ds gs : List (DataW H)) (before : List MemPlace)
  (hval0 : ∀ (j : Nat) t v, Tryz.f4.params[j]? = some t → args[j]? = some v → Value.okWide Tryz.prog W .any base t v)
  (hW : DataW.Whole enc Tryz.prog Tryz.f4.params.toList Rows.fnExactReleaseOkSpec.vars false W args.toList ds gs before)
  (hsz0 : (DataW.weightsEach Tryz.prog (Tryz.f4.params.toList ++ (OpenSpec.ofChange Rows.fnExactReleaseOkSpec).bare.plain.varTypes Tryz.prog) (ds ++ gs)).all (· ≤ reachBytes) = true)
  (hL : laidMetH Tryz.prog Rows.fnExactReleaseOkRow.laid W) (hsh : W.ShapedOpen Tryz.prog) :
  Calls Tryz.prog 4 args W fun e W' => ∃ v, e = .returned v ∧ Rows.fnExactReleaseOkSpec.post enc Tryz.prog Tryz.f4 false true false false W args v W' := by
 have hGp : GWp W := ⟨tabIs_of_mem (show Tryz.prog.globalNamed "internal/strconv.uint64pow10" = some 4 by kernel_rfl) (show (Tryz.prog.globals[4]?).map (·.type) = some 188 by kernel_rfl) Tryz.underlying188 Tryz.underlying147 (by kernel_rfl) (by kernel_rfl) hL (by rw [show Lib.tabData .u64 Lib.pow10Tab = Rows.laid_internal_strconv_uint64pow10 from by kernel_rfl]; simp [Rows.fnExactReleaseOkRow])⟩
 have hGs : GWs W := ⟨tabIs_of_mem (show Tryz.prog.globalNamed "loop.example/medlar/impl.shaStep" = some 0 by kernel_rfl) (show (Tryz.prog.globals[0]?).map (·.type) = some 148 by kernel_rfl) Tryz.underlying148 Tryz.underlying124 (by kernel_rfl) (by kernel_rfl) hL (by rw [show Lib.tabData .u32 shaTab = Rows.laid_loop_example_medlar_impl_shaStep from by kernel_rfl]; simp [Rows.fnExactReleaseOkRow])⟩
 clear hsh hL
 have hsz := hsz0
 have hval := hval0
 have hW' := hW
 obtain ⟨p, q, hA0, hV, rfl, hfz, hnd⟩ := hW
 have hA : DataW.TrodAll enc Tryz.prog W 0 (fun _ => true) true Tryz.f4.params.toList args.toList ds p := hA0
 rw [Tryz.params4] at hA hval hsz
 obtain ⟨v0, vs0, d0, ds0, p0, q0, hargs, rfl, rfl, h0, r0⟩ := trodAll_cons hA
 obtain ⟨v1, vs1, d1, ds1, p1, q1, rfl, rfl, rfl, h1, r1⟩ := trodAll_cons r0
 obtain ⟨rfl, rfl, rfl⟩ := trodAll_nil r1
 obtain rfl : args = #[v0, v1] := by cases args; simp_all
 obtain ⟨a0, rfl, rfl, rfl, y0⟩ := open_string Tryz.underlying9 (hval 0 9 v0 rfl rfl) h0
 have w0 : a0.size ≤ 140737488351232 := by
  have z := sized_string hsz (j := 0) (t := 9) rfl rfl
  rw [Array.length_toList] at z
  exact z
 obtain ⟨cs1, rfl, _⟩ := okWide_struct Tryz.underlying28 (hval 1 28 v1 rfl rfl)
 have k1 := h1
 have lt1 : ∀ x ∈ p1, x.block < W.heap.size := by obtain ⟨m, hm⟩ := k1; exact DataW.trod_lt m _ _ _ hm
 obtain ⟨fu1, hf1⟩ := h1
 obtain ⟨x1, hx1, G1⟩ := (opens28) H enc _ _ _ _ _ _ _ hf1
 obtain ⟨A1_1, c1_1, A1_2, c1_2, A1_4, c1_4, hcs1, l1_1, g1_1, l1_2, g1_2, l1_4, g1_4⟩ := k28_open hx1
 obtain ⟨cl1⟩ := cs1
 obtain rfl : cl1 = _ := hcs1
 obtain ⟨gv0, gw0, qv0, rfl, hv0⟩ := trodVars_cons' hV
 obtain ⟨rfl, _⟩ := trodVars_none hv0
 clear hA0 hval0 hsz0 hsz
 obtain ⟨k, hk⟩ := FnExactReleaseOk_pure a0 w0 x1 G1
 refine (laws_FnExactReleaseOk.calls k _ _ _ _ _ _ _ _ _ _ _ _ _ _ true W rfl hGp hGs g1_1 l1_1 g1_2 l1_2 g1_4 l1_4 hk).mono fun e W' ⟨he, bel0⟩ => ?_
 have bel : Below W.heap.size W W' := bel0
 subst he
 obtain ⟨pv, hpv⟩ := trodVars_below laidOut bel _ _ _ hV varsOk
 exact ⟨_, rfl, _, _, _, [], _, pv, hW', trodAll_mk1 (shut_bool Tryz.underlying4 _), (trodAll_cons_mk (shut_string Tryz.underlying9 y0) (trodAll_cons_mk (Below.trod laidOut (by kernel_rfl) (of_decide_eq_true (by kernel_rfl)) k1 bel lt1) trodAll_mk0)), hpv, bel.frame _, fun h => by cases h⟩
noncomputable def laidWorld (os : Os) : World := { World.holding Tryz.prog os ⟨#[], #[], []⟩ with heap := (((((((World.holding Tryz.prog os ⟨#[], #[], []⟩).heap.modify 7 fun | .cells _ t frozen => .cells #[.int .u8 0, .int .u8 1, .int .u8 28, .int .u8 2, .int .u8 29, .int .u8 14, .int .u8 24, .int .u8 3, .int .u8 30, .int .u8 22, .int .u8 20, .int .u8 15, .int .u8 25, .int .u8 17, .int .u8 4, .int .u8 8, .int .u8 31, .int .u8 27, .int .u8 13, .int .u8 23, .int .u8 21, .int .u8 19, .int .u8 16, .int .u8 7, .int .u8 26, .int .u8 12, .int .u8 18, .int .u8 6, .int .u8 11, .int .u8 5, .int .u8 10, .int .u8 9] t frozen | o => o).modify 8 fun | .cells _ t frozen => .cells #[.int .u8 0, .int .u8 1, .int .u8 56, .int .u8 2, .int .u8 57, .int .u8 49, .int .u8 28, .int .u8 3, .int .u8 61, .int .u8 58, .int .u8 42, .int .u8 50, .int .u8 38, .int .u8 29, .int .u8 17, .int .u8 4, .int .u8 62, .int .u8 47, .int .u8 59, .int .u8 36, .int .u8 45, .int .u8 43, .int .u8 51, .int .u8 22, .int .u8 53, .int .u8 39, .int .u8 33, .int .u8 30, .int .u8 24, .int .u8 18, .int .u8 12, .int .u8 5, .int .u8 63, .int .u8 55, .int .u8 48, .int .u8 27, .int .u8 60, .int .u8 41, .int .u8 37, .int .u8 16, .int .u8 46, .int .u8 35, .int .u8 44, .int .u8 21, .int .u8 52, .int .u8 32, .int .u8 23, .int .u8 11, .int .u8 54, .int .u8 26, .int .u8 40, .int .u8 15, .int .u8 34, .int .u8 20, .int .u8 31, .int .u8 10, .int .u8 25, .int .u8 14, .int .u8 19, .int .u8 9, .int .u8 13, .int .u8 8, .int .u8 7, .int .u8 6] t frozen | o => o).modify 4 fun | .cells _ t frozen => .cells #[.int .u64 1, .int .u64 10, .int .u64 100, .int .u64 1000, .int .u64 10000, .int .u64 100000, .int .u64 1000000, .int .u64 10000000, .int .u64 100000000, .int .u64 1000000000, .int .u64 10000000000, .int .u64 100000000000, .int .u64 1000000000000, .int .u64 10000000000000, .int .u64 100000000000000, .int .u64 1000000000000000, .int .u64 10000000000000000, .int .u64 100000000000000000, .int .u64 1000000000000000000, .int .u64 10000000000000000000] t frozen | o => o).modify 6 fun | .cells _ t frozen => .cells #[.int .u8 128, .int .u8 191, .int .u8 160, .int .u8 191, .int .u8 128, .int .u8 159, .int .u8 144, .int .u8 191, .int .u8 128, .int .u8 143, .int .u8 0, .int .u8 0, .int .u8 0, .int .u8 0, .int .u8 0, .int .u8 0, .int .u8 0, .int .u8 0, .int .u8 0, .int .u8 0, .int .u8 0, .int .u8 0, .int .u8 0, .int .u8 0, .int .u8 0, .int .u8 0, .int .u8 0, .int .u8 0, .int .u8 0, .int .u8 0, .int .u8 0, .int .u8 0] t frozen | o => o).modify 0 fun | .cells _ t frozen => .cells #[.int .u32 1116352408, .int .u32 1899447441, .int .u32 3049323471, .int .u32 3921009573, .int .u32 961987163, .int .u32 1508970993, .int .u32 2453635748, .int .u32 2870763221, .int .u32 3624381080, .int .u32 310598401, .int .u32 607225278, .int .u32 1426881987, .int .u32 1925078388, .int .u32 2162078206, .int .u32 2614888103, .int .u32 3248222580, .int .u32 3835390401, .int .u32 4022224774, .int .u32 264347078, .int .u32 604807628, .int .u32 770255983, .int .u32 1249150122, .int .u32 1555081692, .int .u32 1996064986, .int .u32 2554220882, .int .u32 2821834349, .int .u32 2952996808, .int .u32 3210313671, .int .u32 3336571891, .int .u32 3584528711, .int .u32 113926993, .int .u32 338241895, .int .u32 666307205, .int .u32 773529912, .int .u32 1294757372, .int .u32 1396182291, .int .u32 1695183700, .int .u32 1986661051, .int .u32 2177026350, .int .u32 2456956037, .int .u32 2730485921, .int .u32 2820302411, .int .u32 3259730800, .int .u32 3345764771, .int .u32 3516065817, .int .u32 3600352804, .int .u32 4094571909, .int .u32 275423344, .int .u32 430227734, .int .u32 506948616, .int .u32 659060556, .int .u32 883997877, .int .u32 958139571, .int .u32 1322822218, .int .u32 1537002063, .int .u32 1747873779, .int .u32 1955562222, .int .u32 2024104815, .int .u32 2227730452, .int .u32 2361852424, .int .u32 2428436474, .int .u32 2756734187, .int .u32 3204031479, .int .u32 3329325298] t frozen | o => o).modify 5 fun | .cells _ t frozen => .cells #[.int .u8 240, .int .u8 240, .int .u8 240, .int .u8 240, .int .u8 240, .int .u8 240, .int .u8 240, .int .u8 240, .int .u8 240, .int .u8 240, .int .u8 240, .int .u8 240, .int .u8 240, .int .u8 240, .int .u8 240, .int .u8 240, .int .u8 240, .int .u8 240, .int .u8 240, .int .u8 240, .int .u8 240, .int .u8 240, .int .u8 240, .int .u8 240, .int .u8 240, .int .u8 240, .int .u8 240, .int .u8 240, .int .u8 240, .int .u8 240, .int .u8 240, .int .u8 240, .int .u8 240, .int .u8 240, .int .u8 240, .int .u8 240, .int .u8 240, .int .u8 240, .int .u8 240, .int .u8 240, .int .u8 240, .int .u8 240, .int .u8 240, .int .u8 240, .int .u8 240, .int .u8 240, .int .u8 240, .int .u8 240, .int .u8 240, .int .u8 240, .int .u8 240, .int .u8 240, .int .u8 240, .int .u8 240, .int .u8 240, .int .u8 240, .int .u8 240, .int .u8 240, .int .u8 240, .int .u8 240, .int .u8 240, .int .u8 240, .int .u8 240, .int .u8 240, .int .u8 240, .int .u8 240, .int .u8 240, .int .u8 240, .int .u8 240, .int .u8 240, .int .u8 240, .int .u8 240, .int .u8 240, .int .u8 240, .int .u8 240, .int .u8 240, .int .u8 240, .int .u8 240, .int .u8 240, .int .u8 240, .int .u8 240, .int .u8 240, .int .u8 240, .int .u8 240, .int .u8 240, .int .u8 240, .int .u8 240, .int .u8 240, .int .u8 240, .int .u8 240, .int .u8 240, .int .u8 240, .int .u8 240, .int .u8 240, .int .u8 240, .int .u8 240, .int .u8 240, .int .u8 240, .int .u8 240, .int .u8 240, .int .u8 240, .int .u8 240, .int .u8 240, .int .u8 240, .int .u8 240, .int .u8 240, .int .u8 240, .int .u8 240, .int .u8 240, .int .u8 240, .int .u8 240, .int .u8 240, .int .u8 240, .int .u8 240, .int .u8 240, .int .u8 240, .int .u8 240, .int .u8 240, .int .u8 240, .int .u8 240, .int .u8 240, .int .u8 240, .int .u8 240, .int .u8 240, .int .u8 240, .int .u8 240, .int .u8 240, .int .u8 240, .int .u8 241, .int .u8 241, .int .u8 241, .int .u8 241, .int .u8 241, .int .u8 241, .int .u8 241, .int .u8 241, .int .u8 241, .int .u8 241, .int .u8 241, .int .u8 241, .int .u8 241, .int .u8 241, .int .u8 241, .int .u8 241, .int .u8 241, .int .u8 241, .int .u8 241, .int .u8 241, .int .u8 241, .int .u8 241, .int .u8 241, .int .u8 241, .int .u8 241, .int .u8 241, .int .u8 241, .int .u8 241, .int .u8 241, .int .u8 241, .int .u8 241, .int .u8 241, .int .u8 241, .int .u8 241, .int .u8 241, .int .u8 241, .int .u8 241, .int .u8 241, .int .u8 241, .int .u8 241, .int .u8 241, .int .u8 241, .int .u8 241, .int .u8 241, .int .u8 241, .int .u8 241, .int .u8 241, .int .u8 241, .int .u8 241, .int .u8 241, .int .u8 241, .int .u8 241, .int .u8 241, .int .u8 241, .int .u8 241, .int .u8 241, .int .u8 241, .int .u8 241, .int .u8 241, .int .u8 241, .int .u8 241, .int .u8 241, .int .u8 241, .int .u8 241, .int .u8 241, .int .u8 241, .int .u8 2, .int .u8 2, .int .u8 2, .int .u8 2, .int .u8 2, .int .u8 2, .int .u8 2, .int .u8 2, .int .u8 2, .int .u8 2, .int .u8 2, .int .u8 2, .int .u8 2, .int .u8 2, .int .u8 2, .int .u8 2, .int .u8 2, .int .u8 2, .int .u8 2, .int .u8 2, .int .u8 2, .int .u8 2, .int .u8 2, .int .u8 2, .int .u8 2, .int .u8 2, .int .u8 2, .int .u8 2, .int .u8 2, .int .u8 2, .int .u8 19, .int .u8 3, .int .u8 3, .int .u8 3, .int .u8 3, .int .u8 3, .int .u8 3, .int .u8 3, .int .u8 3, .int .u8 3, .int .u8 3, .int .u8 3, .int .u8 3, .int .u8 35, .int .u8 3, .int .u8 3, .int .u8 52, .int .u8 4, .int .u8 4, .int .u8 4, .int .u8 68, .int .u8 241, .int .u8 241, .int .u8 241, .int .u8 241, .int .u8 241, .int .u8 241, .int .u8 241, .int .u8 241, .int .u8 241, .int .u8 241, .int .u8 241] t frozen | o => o) }
set_option maxRecDepth 100000 in
theorem laid_met (os : Os) : laidMet Tryz.prog Rows.fnExactReleaseOkRow.laid ((laidWorld os).forCall (fun _ _ => 0) ⟨#[], #[.string ByteArray.empty, .agg #[.int .i64 0, .slice none 0 0, .slice none 0 0, .bool false, .slice none 0 0, .string ByteArray.empty, .string ByteArray.empty]], []⟩).memory :=
 laidMet_of_run' 12 (by kernel_rfl) (by kernel_rfl)
set_option maxRecDepth 100000 in
theorem reads (os : Os) {H : Type} (enc : TypeId × Value → H) : ∃ x, DataW.whole enc Tryz.prog ((laidWorld os).forCall (fun _ _ => 0) ⟨#[], #[.string ByteArray.empty, .agg #[.int .i64 0, .slice none 0 0, .slice none 0 0, .bool false, .slice none 0 0, .string ByteArray.empty, .string ByteArray.empty]], []⟩).memory Tryz.f4.params.toList Rows.fnExactReleaseOkSpec.vars false #[(.string ByteArray.empty : Value), (.agg #[.int .i64 0, .slice none 0 0, .slice none 0 0, .bool false, .slice none 0 0, .string ByteArray.empty, .string ByteArray.empty] : Value)].toList 12 = some x :=
 Option.isSome_iff_exists.1 (by kernel_rfl)
set_option maxRecDepth 100000 in
theorem lifted (os : Os) (started : os.Started) (H : Type) (enc : TypeId × Value → H) (F : Stop.Interp) :
  ReturnsInHanded {} Tryz.checked os 4 .any ((OpenSpec.ofChange Rows.fnExactReleaseOkSpec).preRow enc Tryz.prog Tryz.f4 Rows.fnExactReleaseOkRow.domain false Rows.fnExactReleaseOkRow.laid) (((OpenSpec.ofChange Rows.fnExactReleaseOkSpec).at F).post enc Tryz.prog Tryz.f4 false true false false) := by
 obtain ⟨x, hx⟩ := reads os enc
 refine returnsInHanded_of_row (C := Tryz.checked) (s := OpenSpec.ofChange Rows.fnExactReleaseOkSpec) own started (by kernel_rfl) Tryz.func4
  (witness_row_at (enc := enc) (C := Tryz.checked) false (laidWorld os) #[.string ByteArray.empty, .agg #[.int .i64 0, .slice none 0 0, .slice none 0 0, .bool false, .slice none 0 0, .string ByteArray.empty, .string ByteArray.empty]] rfl (by kernel_rfl) (by kernel_rfl) (by kernel_rfl)
   (OpenSpec.preRow_of_cond 12 (x := x) hx (by kernel_rfl) (fun k hk => by cases hk) (by kernel_rfl) (laid_met os))) ?_
 intro W base args ds gs before hval hW _ _ hsz hL hsh _
 exact contract H enc W base args ds gs before hval hW hsz hL hsh
theorem said : Rows.FnExactReleaseOkSaid :=
 OpenClaim.holds_of_cond 4 Tryz.f4 rfl rfl rfl rfl rfl rfl rfl ⟨rfl, rfl, rfl, rfl, rfl⟩ rfl rfl rfl rfl rfl (by kernel_rfl) Tryz.func4 (by kernel_rfl)
  (of_decide_eq_true (by kernel_rfl)) (by unfold Func.isWrapper; first | (rw [if_pos (by decide +kernel)]; kernel_rfl) | (rw [if_neg (by decide +kernel)]; exact ⟨rfl, rfl⟩))
  (fun os started H enc _ F => by rw [OpenClaim.pre_eq_preRow]; exact lifted os started H enc F)
theorem plain (f : FuncId) (fn : Func) (hf : Tryz.pinned.checked.prog.funcNamed "loop.example/medlar/laws.FnExactReleaseOk" = some f) (hfn : Tryz.pinned.checked.prog.funcs[f]? = some fn) :
  true = Tryz.pinned.checked.prog.looks [] ∧ ∀ (j : Nat) t, fn.params[j]? = some t → Tryz.pinned.checked.prog.wantsStandIn t = false := by
 obtain rfl : f = 4 := Option.some.inj ((show Tryz.prog.funcNamed "loop.example/medlar/laws.FnExactReleaseOk" = some 4 by kernel_rfl).symm.trans hf) |>.symm
 obtain rfl : fn = Tryz.f4 := (Option.some.inj (Tryz.func4.symm.trans hfn)).symm
 refine ⟨by kernel_rfl, fun j t ht => ?_⟩
 rw [Tryz.params4] at ht
 have hm := Array.mem_of_getElem? ht
 simp only [List.mem_toArray, List.mem_cons, List.not_mem_nil, or_false] at hm
 rcases hm with rfl | rfl
 ·exact (show Tryz.prog.wantsStandIn 9 = false by kernel_rfl)
 ·exact (show Tryz.prog.wantsStandIn 28 = false by kernel_rfl)
theorem card : Rows.FnExactReleaseOkCardSaid :=
 Claim7.holds_tied_plain_at .later [] _ _ _ _ said (fun _ h => by cases h) (by kernel_rfl) (fun _ h => by cases h) fnExactReleaseOk_row_tie rfl ⟨rfl, rfl⟩ (by kernel_rfl) rfl plain (by kernel_rfl)
end Go.Proofs.YtaakfmpffhfaeaaGreatDoor.fnExactReleaseOk
namespace Go.Proofs.YtaakfmpffhfaeaaGreatDoor
theorem fnExactReleaseOk_holds : Rows.FnExactReleaseOkCardSaid := fnExactReleaseOk.card
end Go.Proofs.YtaakfmpffhfaeaaGreatDoor
end
