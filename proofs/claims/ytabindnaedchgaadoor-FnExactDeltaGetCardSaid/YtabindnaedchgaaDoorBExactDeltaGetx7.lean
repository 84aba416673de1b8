import Derived.Shelf.Strings.Builder1
import Derived.Shelf.Strings.Builder2
import Derived.Shelf.Strings.OnBuilder
import Derived.Shelf.Utf8.RuneCount
import Derived.Shelf.Strings.Search1
import Derived.Shelf.Strings.Search2
import Derived.Shelf.Strings.Search3
import Derived.Shelf.Strings.Cut
import Derived.Shelf.Strings.Count
import Derived.Shelf.LaysM
import Derived.Shelf.Strings.Shaped
import Derived.Shelf.Strings.Split
import Derived.Shelf.Strings.SplitShaped
import Derived.Shelf.Unicode.Decode
import Derived.Shelf.Strings.RuneCount
import Derived.Shelf.Strings.Explode
import Derived.Shelf.Unicode.DecodeSlow
import Derived.Shelf.Unicode.DecodeAny
import Derived.Test.YtabindnaedchgaaDoorProg
import Derived.Test.YtabindnaedchgaaDoorBExactDeltaGetx2
import Derived.Test.YtabindnaedchgaaDoorBExactDeltaGetx3
import Derived.Test.YtabindnaedchgaaDoorBExactDeltaGetx4
import Derived.Test.YtabindnaedchgaaDoorBExactDeltaGetx6
import Derived.Test.YtabindnaedchgaaDoorBExactDeltaGetx1
import Derived.ChangeArms
import Derived.DataReads
import Derived.WideShapes
import Derived.ChangeShapes
import Derived.KernelRfl

section
/-
  DERIVED: THE SHELF's CONTRACTS AT THIS DUMP, IN PLAIN WORDS (tools/lay-plain.mjs out of 'TrydShelf.lean', which tools/lay-shelf.mjs wrote): THE SAME DECLARATIONS UNDER THE SAME NAMES: 'import', 'namespace', 'open', 'def', 'theorem' AND NOTHING ELSE: no command of the shelf's: FOR A HAND-IN. Each laying: the table of numbers ('.._ren') and one theorem, a field a fact of the dump's own or the kernel's comparison; each contract: ONE APPLICATION.
-/
namespace Go.Proofs
open Go.Shelf
def Tryd.lays156_ren : Go.Shelf.Ren := ⟨fun | 156 => 62 | 165 => 80 | 166 => 81 | 169 => 82 | 240 => 100 | 241 => 101 | 276 => 110 | 277 => 111 | n => n, fun | 31 => 22 | 9 => 9 | 3 => 3 | 4 => 4 | 0 => 0 | 20 => 20 | 72 => 95 | 76 => 99 | 70 => 93 | 37 => 32 | 75 => 98 | 127 => 112 | 164 => 118 | 5 => 5 | 80 => 101 | n => n, fun | n => n⟩
theorem Tryd.lays156 : Go.Proofs.Lays.n156 Tryd.prog Tryd.lays156_ren := {
  mixed := by kernel_rfl
  f156 := Tryd.func62.trans (congrArg some (by kernel_rfl))
  f165 := Tryd.func80.trans (congrArg some (by kernel_rfl))
  f166 := Tryd.func81.trans (congrArg some (by kernel_rfl))
  f169 := Tryd.func82.trans (congrArg some (by kernel_rfl))
  f240 := Tryd.func100.trans (congrArg some (by kernel_rfl))
  f241 := Tryd.func101.trans (congrArg some (by kernel_rfl))
  f276 := Tryd.func110.trans (congrArg some (by kernel_rfl))
  f277 := Tryd.func111.trans (congrArg some (by kernel_rfl))
  t0 := Tryd.underlying0
  a0 := Tryd.isAgg0
  z0 := Tryd.sizeOf0
  v0 := Tryd.zeroValue0
  t3 := Tryd.underlying3
  a3 := Tryd.isAgg3
  z3 := Tryd.sizeOf3
  v3 := Tryd.zeroValue3
  t4 := Tryd.underlying4
  a4 := Tryd.isAgg4
  z4 := Tryd.sizeOf4
  v4 := Tryd.zeroValue4
  t9 := Tryd.underlying9
  a9 := Tryd.isAgg9
  z9 := Tryd.sizeOf9
  v9 := Tryd.zeroValue9
  t20 := Tryd.underlying20
  a20 := Tryd.isAgg20
  z20 := Tryd.sizeOf20
  v20 := Tryd.zeroValue20
  t31 := Tryd.underlying22
  a31 := Tryd.isAgg22
  z31 := Tryd.sizeOf22
  v31 := Tryd.zeroValue22
  t37 := Tryd.underlying32
  a37 := Tryd.isAgg32
  z37 := Tryd.sizeOf32
  v37 := Tryd.zeroValue32
  t70 := Tryd.underlying93
  a70 := Tryd.isAgg93
  z70 := Tryd.sizeOf93
  v70 := Tryd.zeroValue93
  t72 := Tryd.underlying95
  a72 := Tryd.isAgg95
  z72 := Tryd.sizeOf95
  v72 := Tryd.zeroValue95
  t75 := Tryd.underlying98
  a75 := Tryd.isAgg98
  z75 := Tryd.sizeOf98
  v75 := Tryd.zeroValue98
  t76 := Tryd.underlying99
  a76 := Tryd.isAgg99
  z76 := Tryd.sizeOf99
  v76 := Tryd.zeroValue99
  t127 := Tryd.underlying112
  a127 := Tryd.isAgg112
  z127 := Tryd.sizeOf112
  v127 := Tryd.zeroValue112
  t164 := Tryd.underlying118
  a164 := Tryd.isAgg118
  z164 := Tryd.sizeOf118
  v164 := Tryd.zeroValue118 }
theorem Tryd.Builder_Extra_156 : Builder.Extra Tryd.prog Tryd.lays156_ren := {
  sizeBuilder := by kernel_rfl
  liesBuilder := by kernel_rfl
  t5 := Tryd.underlying5
  a5 := Tryd.isAgg5
  z5 := Tryd.sizeOf5
  v5 := Tryd.zeroValue5
  infoByte := by kernel_rfl
  cellsByte := by kernel_rfl
  sizeByte := by kernel_rfl
  neB5 := by decide }
open Go.RowKit in
theorem Tryd.strings_Join_none (a : Option Addr) (c : Nat) (sep : ByteArray) (w : World) :
    Calls Tryd.prog 62 #[.slice a 0 c, .string sep] w fun e w' => e = .returned (.string ⟨#[]⟩) ∧ w' = w := Any.strings_Join_none Tryd.lays156 Tryd.Builder_Extra_156 a c sep w
open Go.RowKit in
theorem Tryd.strings_Join (bk o c : Nat) (xs : List ByteArray) (sep : ByteArray) (w : World) (hcells : ∀ (j : Nat) x, xs[j]? = some x → w.cell? ⟨bk, o + j, none⟩ = some (.string x)) (hbk : bk < w.heap.size) (hN : xs.length ≤ 140737488355328) (hcap : xs.length ≤ c) (hlen : (Lib.join (xs.map (·.data.toList)) sep.data.toList).length ≤ 140737488355328) :
    Calls Tryd.prog 62 #[.slice (some ⟨bk, o, none⟩) xs.length c, .string sep] w fun e w' => e = .returned (.string ⟨(Lib.join (xs.map (·.data.toList)) sep.data.toList).toArray⟩) ∧ Below w.heap.size w w' := Any.strings_Join Tryd.lays156 Tryd.Builder_Extra_156 bk o c xs sep w hcells hbk hN hcap hlen
def Tryd.lays145_ren : Go.Shelf.Ren := ⟨fun | 145 => 50 | 220 => 71 | 219 => 93 | 217 => 105 | 225 => 106 | 224 => 107 | 267 => 108 | 266 => 113 | 314 => 114 | n => n, fun | 9 => 9 | 4 => 4 | 59 => 69 | 3 => 3 | 5 => 5 | 46 => 117 | 146 => 122 | 51 => 121 | n => n, fun | 1 => 0 | n => n⟩
theorem Tryd.lays145 : Go.Proofs.Lays.n145 Tryd.prog Tryd.lays145_ren := {
  mixed := by kernel_rfl
  f145 := Tryd.func50.trans (congrArg some (by kernel_rfl))
  f217 := Tryd.func105.trans (congrArg some (by kernel_rfl))
  f219 := Tryd.func93.trans (congrArg some (by kernel_rfl))
  f220 := Tryd.func71.trans (congrArg some (by kernel_rfl))
  f224 := Tryd.func107.trans (congrArg some (by kernel_rfl))
  f225 := Tryd.func106.trans (congrArg some (by kernel_rfl))
  f266 := Tryd.func113.trans (congrArg some (by kernel_rfl))
  f267 := Tryd.func108.trans (congrArg some (by kernel_rfl))
  f314 := Tryd.func114.trans (congrArg some (by kernel_rfl))
  t3 := Tryd.underlying3
  a3 := Tryd.isAgg3
  z3 := Tryd.sizeOf3
  v3 := Tryd.zeroValue3
  t4 := Tryd.underlying4
  a4 := Tryd.isAgg4
  z4 := Tryd.sizeOf4
  v4 := Tryd.zeroValue4
  t5 := Tryd.underlying5
  a5 := Tryd.isAgg5
  z5 := Tryd.sizeOf5
  v5 := Tryd.zeroValue5
  t9 := Tryd.underlying9
  a9 := Tryd.isAgg9
  z9 := Tryd.sizeOf9
  v9 := Tryd.zeroValue9
  t46 := Tryd.underlying117
  a46 := Tryd.isAgg117
  z46 := Tryd.sizeOf117
  v46 := Tryd.zeroValue117
  t51 := Tryd.underlying121
  a51 := Tryd.isAgg121
  z51 := Tryd.sizeOf121
  v51 := Tryd.zeroValue121
  t59 := Tryd.underlying69
  a59 := Tryd.isAgg69
  z59 := Tryd.sizeOf69
  v59 := Tryd.zeroValue69
  t146 := Tryd.underlying122
  a146 := Tryd.isAgg122
  z146 := Tryd.sizeOf122
  v146 := Tryd.zeroValue122
  g1 := by kernel_rfl }
open Go.RowKit Go.Lib in
theorem Tryd.strings_Cut (s sep : ByteArray) (m : Int) (w : World) (hs : s.size < 4294967281) (hm : w.cell? ⟨0, 0, none⟩ = some (.int .i64 m)) :
    Calls Tryd.prog 50 #[.string s, .string sep] w fun e w' => e = .returned (.tuple #[.string ⟨(Lib.cut s.data.toList sep.data.toList).1.toArray⟩, .string ⟨(Lib.cut s.data.toList sep.data.toList).2.1.toArray⟩, .bool (Lib.cut s.data.toList sep.data.toList).2.2]) ∧ ∃ n, w' = w.drewN n := Any.strings_Cut Tryd.lays145 s sep m w hs hm
def Tryd.lays146_ren : Go.Shelf.Ren := ⟨fun | 146 => 48 | 221 => 70 | 268 => 90 | 138 => 91 | 143 => 92 | 195 => 102 | 197 => 103 | 218 => 104 | 219 => 93 | 260 => 112 | 217 => 105 | 225 => 106 | 224 => 107 | 267 => 108 | 266 => 113 | 314 => 114 | n => n, fun | 9 => 9 | 31 => 22 | 3 => 3 | 4 => 4 | 0 => 0 | 105 => 114 | 21 => 21 | 5 => 5 | 46 => 117 | 119 => 124 | 139 => 127 | 138 => 126 | 146 => 122 | 51 => 121 | n => n, fun | 1 => 0 | 3 => 1 | 4 => 2 | n => n⟩
theorem Tryd.lays146 : Go.Proofs.Lays.n146 Tryd.prog Tryd.lays146_ren := {
  mixed := by kernel_rfl
  f138 := Tryd.func91.trans (congrArg some (by kernel_rfl))
  f143 := Tryd.func92.trans (congrArg some (by kernel_rfl))
  f146 := Tryd.func48.trans (congrArg some (by kernel_rfl))
  f195 := Tryd.func102.trans (congrArg some (by kernel_rfl))
  f197 := Tryd.func103.trans (congrArg some (by kernel_rfl))
  f217 := Tryd.func105.trans (congrArg some (by kernel_rfl))
  f218 := Tryd.func104.trans (congrArg some (by kernel_rfl))
  f219 := Tryd.func93.trans (congrArg some (by kernel_rfl))
  f221 := Tryd.func70.trans (congrArg some (by kernel_rfl))
  f224 := Tryd.func107.trans (congrArg some (by kernel_rfl))
  f225 := Tryd.func106.trans (congrArg some (by kernel_rfl))
  f260 := Tryd.func112.trans (congrArg some (by kernel_rfl))
  f266 := Tryd.func113.trans (congrArg some (by kernel_rfl))
  f267 := Tryd.func108.trans (congrArg some (by kernel_rfl))
  f268 := Tryd.func90.trans (congrArg some (by kernel_rfl))
  f314 := Tryd.func114.trans (congrArg some (by kernel_rfl))
  t0 := Tryd.underlying0
  a0 := Tryd.isAgg0
  z0 := Tryd.sizeOf0
  v0 := Tryd.zeroValue0
  t3 := Tryd.underlying3
  a3 := Tryd.isAgg3
  z3 := Tryd.sizeOf3
  v3 := Tryd.zeroValue3
  t4 := Tryd.underlying4
  a4 := Tryd.isAgg4
  z4 := Tryd.sizeOf4
  v4 := Tryd.zeroValue4
  t5 := Tryd.underlying5
  a5 := Tryd.isAgg5
  z5 := Tryd.sizeOf5
  v5 := Tryd.zeroValue5
  t9 := Tryd.underlying9
  a9 := Tryd.isAgg9
  z9 := Tryd.sizeOf9
  v9 := Tryd.zeroValue9
  t21 := Tryd.underlying21
  a21 := Tryd.isAgg21
  z21 := Tryd.sizeOf21
  v21 := Tryd.zeroValue21
  t31 := Tryd.underlying22
  a31 := Tryd.isAgg22
  z31 := Tryd.sizeOf22
  v31 := Tryd.zeroValue22
  t46 := Tryd.underlying117
  a46 := Tryd.isAgg117
  z46 := Tryd.sizeOf117
  v46 := Tryd.zeroValue117
  t51 := Tryd.underlying121
  a51 := Tryd.isAgg121
  z51 := Tryd.sizeOf121
  v51 := Tryd.zeroValue121
  t105 := Tryd.underlying114
  a105 := Tryd.isAgg114
  z105 := Tryd.sizeOf114
  v105 := Tryd.zeroValue114
  t119 := Tryd.underlying124
  a119 := Tryd.isAgg124
  z119 := Tryd.sizeOf124
  t138 := Tryd.underlying126
  a138 := Tryd.isAgg126
  z138 := Tryd.sizeOf126
  v138 := Tryd.zeroValue126
  t139 := Tryd.underlying127
  a139 := Tryd.isAgg127
  z139 := Tryd.sizeOf127
  v139 := Tryd.zeroValue127
  t146 := Tryd.underlying122
  a146 := Tryd.isAgg122
  z146 := Tryd.sizeOf122
  v146 := Tryd.zeroValue122
  g1 := by kernel_rfl
  g3 := by kernel_rfl
  g4 := by kernel_rfl }
open Go.RowKit Go.Lib in
theorem Tryd.strings_Split (s sep : ByteArray) (m : Int) (w : World) (hs : s.size < 4294967281) (hm : w.cell? ⟨0, 0, none⟩ = some (.int .i64 m)) (h1 : 1 ≤ sep.size) :
    Calls Tryd.prog 48 #[.string s, .string sep] w fun e w' =>
      e = .returned (.slice (some ⟨w.heap.size, 0, none⟩) (Lib.countB s sep + 1) (Lib.countB s sep + 1)) ∧ w' = w.alloc (.cells ((Lib.splitB sep 0 (Lib.countB s sep) s).map Value.string).toArray 9) := Any.strings_Split Tryd.lays146 (by kernel_rfl) s sep m w hs hm h1
def Tryd.laysM146_ren : Go.Shelf.Ren := ⟨fun | 146 => 48 | 221 => 70 | 268 => 90 | 138 => 91 | 143 => 92 | 195 => 102 | 197 => 103 | 218 => 104 | 219 => 93 | 260 => 112 | 217 => 105 | 225 => 106 | 224 => 107 | 267 => 108 | 266 => 113 | 314 => 114 | n => n, fun | 9 => 9 | 31 => 22 | 3 => 3 | 4 => 4 | 0 => 0 | 105 => 114 | 21 => 21 | 5 => 5 | 46 => 117 | 119 => 124 | 139 => 127 | 138 => 126 | 146 => 122 | 51 => 121 | n => n, fun | 1 => 0 | 3 => 1 | 4 => 2 | n => n⟩
theorem Tryd.laysM146 : Go.Proofs.LaysM.n146 Tryd.prog Tryd.laysM146_ren := {
  mixed := by kernel_rfl
  f138 := Tryd.func91.trans (congrArg some (by kernel_rfl))
  f143 := Tryd.func92.trans (congrArg some (by kernel_rfl))
  f146 := Tryd.func48.trans (congrArg some (by kernel_rfl))
  f195 := Tryd.func102.trans (congrArg some (by kernel_rfl))
  f197 := Tryd.func103.trans (congrArg some (by kernel_rfl))
  f217 := Tryd.func105.trans (congrArg some (by kernel_rfl))
  f218 := Tryd.func104.trans (congrArg some (by kernel_rfl))
  f219 := Tryd.func93.trans (congrArg some (by kernel_rfl))
  f221 := Tryd.func70.trans (congrArg some (by kernel_rfl))
  f224 := Tryd.func107.trans (congrArg some (by kernel_rfl))
  f225 := Tryd.func106.trans (congrArg some (by kernel_rfl))
  f260 := Tryd.func112.trans (congrArg some (by kernel_rfl))
  f266 := Tryd.func113.trans (congrArg some (by kernel_rfl))
  f267 := Tryd.func108.trans (congrArg some (by kernel_rfl))
  f268 := Tryd.func90.trans (congrArg some (by kernel_rfl))
  f314 := Tryd.func114.trans (congrArg some (by kernel_rfl))
  t0 := Tryd.underlying0
  a0 := Tryd.isAgg0
  z0 := Tryd.sizeOf0
  v0 := Tryd.zeroValue0
  t3 := Tryd.underlying3
  a3 := Tryd.isAgg3
  z3 := Tryd.sizeOf3
  v3 := Tryd.zeroValue3
  t4 := Tryd.underlying4
  a4 := Tryd.isAgg4
  z4 := Tryd.sizeOf4
  v4 := Tryd.zeroValue4
  t5 := Tryd.underlying5
  a5 := Tryd.isAgg5
  z5 := Tryd.sizeOf5
  v5 := Tryd.zeroValue5
  t9 := Tryd.underlying9
  a9 := Tryd.isAgg9
  z9 := Tryd.sizeOf9
  v9 := Tryd.zeroValue9
  t21 := Tryd.underlying21
  a21 := Tryd.isAgg21
  z21 := Tryd.sizeOf21
  v21 := Tryd.zeroValue21
  t31 := Tryd.underlying22
  a31 := Tryd.isAgg22
  z31 := Tryd.sizeOf22
  v31 := Tryd.zeroValue22
  t46 := Tryd.underlying117
  a46 := Tryd.isAgg117
  z46 := Tryd.sizeOf117
  v46 := Tryd.zeroValue117
  t51 := Tryd.underlying121
  a51 := Tryd.isAgg121
  z51 := Tryd.sizeOf121
  v51 := Tryd.zeroValue121
  t105 := Tryd.underlying114
  a105 := Tryd.isAgg114
  z105 := Tryd.sizeOf114
  v105 := Tryd.zeroValue114
  t119 := Tryd.underlying124
  a119 := Tryd.isAgg124
  z119 := Tryd.sizeOf124
  t138 := Tryd.underlying126
  a138 := Tryd.isAgg126
  z138 := Tryd.sizeOf126
  v138 := Tryd.zeroValue126
  t139 := Tryd.underlying127
  a139 := Tryd.isAgg127
  z139 := Tryd.sizeOf127
  v139 := Tryd.zeroValue127
  t146 := Tryd.underlying122
  a146 := Tryd.isAgg122
  z146 := Tryd.sizeOf122
  v146 := Tryd.zeroValue122
  g1 := by kernel_rfl
  g3 := by kernel_rfl
  g4 := by kernel_rfl
  i0 := by kernel_rfl
  i3 := by kernel_rfl
  i4 := by kernel_rfl
  i5 := by kernel_rfl
  i9 := by kernel_rfl
  i21 := by kernel_rfl
  i31 := by kernel_rfl
  i46 := by kernel_rfl
  i51 := by kernel_rfl
  i105 := by kernel_rfl
  i138 := by kernel_rfl
  i139 := by kernel_rfl
  i146 := by kernel_rfl
  m1 := by kernel_rfl
  s1_3 := fun w h => Go.Proofs.cell_of_shapedOpen_int (zero := #[.int .i64 0]) (t := 3) h (of_decide_eq_true (by kernel_rfl)) (by kernel_rfl) rfl (by kernel_rfl) (by kernel_rfl) Tryd.underlying3
  m3 := by kernel_rfl
  m4 := by kernel_rfl }
end Go.Proofs
end

section
-- Printed for this claim by a program (mprint.py) that uses the kit's print; Lean checks it.
namespace Go.Proofs.YtabindnaedchgaaDoor.M
open Go.RowKit Go.Proofs.YtabindnaedchgaaDoorW.PrintWords Go.Proofs.YtabindnaedchgaaDoorW.PrintLast Go.Proofs.YtabindnaedchgaaDoorW.PrintMore Go.Proofs.YtabindnaedchgaaDoor.Sq
set_option synthInstance.maxHeartbeats 2000000
set_option synthInstance.maxSize 4096
attribute [local go_sem] max2_int min2_int max_two min_two max_three min_three max_four min_four   -- for this text's walks alone
set_option linter.unusedVariables false
set_option linter.unusedSimpArgs false
theorem gf62 : Go_ Tryd.prog 62 Tryd.f62 := ⟨Tryd.func62, by kernel_rfl, rfl⟩
def strings_Join.f (l0 : List ByteArray) (a1 : ByteArray) : Option (ByteArray) := if l0.length ≤ 140737488355328 then (if (Lib.join (l0.map (·.data.toList)) a1.data.toList).length ≤ 140737488355328 then (some (⟨(Lib.join (l0.map (·.data.toList)) a1.data.toList).toArray⟩ : ByteArray)) else (none)) else (none)
theorem strings_Join.calls (A0 : Option Addr) (c0 : Nat) (l0 : List ByteArray) (a1 : ByteArray) (r : ByteArray) (w : World) (hr0 : Kd.C Kd.string w A0 l0.length l0) (hc0 : l0.length ≤ c0) (h : strings_Join.f l0 a1 = some r) :
    Calls Tryd.prog 62 #[.slice A0 l0.length c0, .string a1] w fun e w' => e = .returned (.string r) ∧ Below w.heap.size w w' := by
  unfold strings_Join.f at h
  by_cases h0 : l0.length ≤ 140737488355328
  · rw [if_pos h0] at h
    by_cases h1 : (Lib.join (l0.map (·.data.toList)) a1.data.toList).length ≤ 140737488355328
    · rw [if_pos h1] at h
      obtain rfl := Option.some.inj h
      rcases Nat.eq_zero_or_pos l0.length with hz | hz
      · obtain rfl : l0 = [] := List.eq_nil_of_length_eq_zero hz
        exact (Go.Proofs.Tryd.strings_Join_none A0 c0 a1 w).mono fun e w' ⟨he, hw⟩ => ⟨he, hw ▸ Below.refl _ _⟩
      · obtain ⟨b, off, rfl, hb, hc⟩ := C_form hr0 hz (by show 0 < 1; omega)
        exact Go.Proofs.Tryd.strings_Join b off c0 l0 a1 w (fun j x hj => by
          obtain ⟨c, hcl, hK, hcell⟩ := hc j x hj
          have hK' : c = [.string x] := hK
          subst hK'
          have h3 := hcell 0 _ rfl
          have e : off + (j * Kd.string.sz + 0) = off + j := by show off + (j * 1 + 0) = off + j; omega
          rwa [e] at h3) hb h0 hc0 h1
    · rw [if_neg h1] at h
      cases h
  · rw [if_neg h0] at h
    cases h
end Go.Proofs.YtabindnaedchgaaDoor.M
end

section
-- Printed for this claim by a program (mprint.py) that uses the kit's print; Lean checks it.
namespace Go.Proofs.YtabindnaedchgaaDoor.M
open Go.RowKit Go.Proofs.YtabindnaedchgaaDoorW.PrintWords Go.Proofs.YtabindnaedchgaaDoorW.PrintLast Go.Proofs.YtabindnaedchgaaDoorW.PrintMore Go.Proofs.YtabindnaedchgaaDoor.Sq
set_option synthInstance.maxHeartbeats 2000000
set_option synthInstance.maxSize 4096
attribute [local go_sem] max2_int min2_int max_two min_two max_three min_three max_four min_four   -- for this text's walks alone
set_option linter.unusedVariables false
set_option linter.unusedSimpArgs false
theorem gf35 : Go_ Tryd.prog 35 Tryd.f35 := ⟨Tryd.func35, by kernel_rfl, rfl⟩
def impl_affixLine.f (a0_0 : ByteArray) (a0_1 : Bool) (a0_2 : ByteArray) (a0_3 : ByteArray) (a0_4 : ByteArray) : Option (ByteArray) := if a0_1 = true then ((strings_Join.f (([(⟨#[102, 114, 111, 110, 116]⟩ : ByteArray), a0_0, a0_2, a0_3, a0_4] : List ByteArray)) (⟨#[32]⟩ : ByteArray)).bind fun t105 => (if t105.size + 1 ≤ 9223372036854775807 then (some (t105 ++ (⟨#[10]⟩ : ByteArray))) else (none))) else ((strings_Join.f (([(⟨#[101, 110, 100]⟩ : ByteArray), a0_0, a0_2, a0_3, a0_4] : List ByteArray)) (⟨#[32]⟩ : ByteArray)).bind fun t109 => (if t109.size + 1 ≤ 9223372036854775807 then (some (t109 ++ (⟨#[10]⟩ : ByteArray))) else (none)))
set_option maxHeartbeats 8000000 in
set_option maxRecDepth 100000 in
theorem impl_affixLine.calls (a0_0 : ByteArray) (a0_1 : Bool) (a0_2 : ByteArray) (a0_3 : ByteArray) (a0_4 : ByteArray) (r : ByteArray) (w : World) (h : impl_affixLine.f a0_0 a0_1 a0_2 a0_3 a0_4 = some r) :
    Calls Tryd.prog 35 #[.agg #[.string a0_0, .bool a0_1, .string a0_2, .string a0_3, .string a0_4]] w fun e w' => e = .returned (.string r) ∧ Below w.heap.size w w' := by
  have hu46 := Tryd.underlying46
  have HB := Aside0.mk (Below.refl w.heap.size w)
  unfold impl_affixLine.f at h
  have H := h
  clear h
  by_cases c2 : a0_1 = true
  · subst c2
    rw [if_pos rfl] at H
    obtain ⟨y102, hy102⟩ : ∃ y_ : List ByteArray, y_ = (([(⟨#[102, 114, 111, 110, 116]⟩ : ByteArray), a0_0, a0_2, a0_3, a0_4] : List ByteArray)) := ⟨_, rfl⟩
    replace H : ((strings_Join.f y102 (⟨#[32]⟩ : ByteArray)).bind fun t105 => (if t105.size + 1 ≤ 9223372036854775807 then (some (t105 ++ (⟨#[10]⟩ : ByteArray))) else (none))) = some r := by first | (rw [hy102]; with_reducible exact H) | (have H2_ := (Option.bind_some _ _).symm.trans H; rw [hy102]; with_reducible exact H2_) | (have H2_ := (Option.bind_some _ _).symm.trans H; with_reducible exact H2_) | with_reducible exact H | (rw [hy102]; exact H) | exact H
    have Ny102 := Aside0.mk hy102
    clear hy102
    replace H := Option.bind_eq_some_iff.mp H
    obtain ⟨t105, A30, H⟩ := H
    have A3 := Aside0.mk A30
    clear A30
    have c4 := ite_y H
    replace H := ite_t H
    have c4b0 := eq_true c4
    have c4b1 := decide_eq_true c4
    try have c4b2 : (9223372036854775807 < t105.size + 1) = False := eq_false (Nat.not_lt.2 c4)
    obtain rfl := Option.some.inj H
    go_enter Tryd.func35, Tryd.ntmps35
    go_wp2_with (first | ((with_reducible refine gate_dst (N := 1) rfl ?_); refine box_event rfl (N := 1) rfl (cs := #[.string a0_0, .bool true, .string a0_2, .string a0_3, .string a0_4]) (t := 46) (by go_simp <;> rfl) ?_; intro gb101 hg w5 hbox hb; have BK101 := Aside0.mk (hbox); have GW101 := Le_.mk (ge_of hg HB.out); have GE101 := Le_.mk (ge_of hg HB.out); replace HB := kB HB hb; clear hb hbox hg; have hz6 := cells_5 BK101.out) | ((with_reducible refine gate_dst (N := 15) rfl ?_); refine Kd.R_lit Kd.string _ 9 ?hg (N := 15) ?hd (xs := ([(⟨#[102, 114, 111, 110, 116]⟩ : ByteArray), a0_0, a0_2, a0_3, a0_4] : List ByteArray)) (inner := [.string (⟨#[102, 114, 111, 110, 116]⟩ : ByteArray), .string a0_0, .string a0_2, .string a0_3, .string a0_4]) (ok := fun _ => True) (okp := fun _ => True) ?hr ?hp (fun _ hk => hk) trivial (Below.refl _ _) (Nat.le_refl _) (by simp) ?_; (case hd => rfl); (case hg => rfl); (case hr => first | (go_simp; done) | (go_simp; rfl)); (case hp => exact (Reps.one (show Kd.M Kd.string _ _ _ (⟨#[102, 114, 111, 110, 116]⟩ : ByteArray) [.string (⟨#[102, 114, 111, 110, 116]⟩ : ByteArray)] from rfl) (Reps.one (show Kd.M Kd.string _ _ _ a0_0 [.string a0_0] from rfl) (Reps.one (show Kd.M Kd.string _ _ _ a0_2 [.string a0_2] from rfl) (Reps.one (show Kd.M Kd.string _ _ _ a0_3 [.string a0_3] from rfl) (Reps.one (show Kd.M Kd.string _ _ _ a0_4 [.string a0_4] from rfl) (Reps.none _ _))))))); intro v103 w7 ho8 hb hg_ hnew_; clear hg_ hnew_; (first | rw [← Ny102.out] at ho8 | (simp only [Int.reduceToNat] at ho8; rw [← Ny102.out] at ho8)); have HO104 := Aside0.mk (Kd.R_lower ho8 (bz HB.out)); replace BK101 := kb BK101 hb; replace HB := kB HB hb; clear hb ho8; obtain ⟨Ao9, co9, eo9⟩ := Kd.R_slice HO104.out; subst eo9) | ((with_reducible refine gate_callee (f := 62) rfl ?_); refine goL (some 16) rfl rfl gf62 #[.slice Ao9 y102.length co9, .string (⟨#[32]⟩ : ByteArray)] rfl rfl ?_; (with_reducible refine (strings_Join.calls _ _ y102 (⟨#[32]⟩ : ByteArray) t105 _ (cx (Kd.R_reads' HO104.out).2.2) ((Kd.R_reads' HO104.out).2.1) A3.out).mono ?_); rintro e w10 ⟨rfl, hb⟩; refine ⟨_, rfl, ?_⟩; replace HO104 := kR HO104 hb; replace BK101 := kb BK101 hb; replace HB := kB HB hb; (try clear hb); (try clear hb2); (try clear hk); (try clear hi)))
    go_ret
    exact ⟨by rfl, bx HB.out⟩
  · replace c2 := Bool.eq_false_iff.mpr c2
    subst c2
    rw [if_neg Bool.false_ne_true] at H
    obtain ⟨y106, hy106⟩ : ∃ y_ : List ByteArray, y_ = (([(⟨#[101, 110, 100]⟩ : ByteArray), a0_0, a0_2, a0_3, a0_4] : List ByteArray)) := ⟨_, rfl⟩
    replace H : ((strings_Join.f y106 (⟨#[32]⟩ : ByteArray)).bind fun t109 => (if t109.size + 1 ≤ 9223372036854775807 then (some (t109 ++ (⟨#[10]⟩ : ByteArray))) else (none))) = some r := by first | (rw [hy106]; with_reducible exact H) | (have H2_ := (Option.bind_some _ _).symm.trans H; rw [hy106]; with_reducible exact H2_) | (have H2_ := (Option.bind_some _ _).symm.trans H; with_reducible exact H2_) | with_reducible exact H | (rw [hy106]; exact H) | exact H
    have Ny106 := Aside0.mk hy106
    clear hy106
    replace H := Option.bind_eq_some_iff.mp H
    obtain ⟨t109, A110, H⟩ := H
    have A11 := Aside0.mk A110
    clear A110
    have c12 := ite_y H
    replace H := ite_t H
    have c12b0 := eq_true c12
    have c12b1 := decide_eq_true c12
    try have c12b2 : (9223372036854775807 < t109.size + 1) = False := eq_false (Nat.not_lt.2 c12)
    obtain rfl := Option.some.inj H
    go_enter Tryd.func35, Tryd.ntmps35
    go_wp2_with (first | ((with_reducible refine gate_dst (N := 1) rfl ?_); refine box_event rfl (N := 1) rfl (cs := #[.string a0_0, .bool false, .string a0_2, .string a0_3, .string a0_4]) (t := 46) (by go_simp <;> rfl) ?_; intro gb101 hg w13 hbox hb; have BK101 := Aside0.mk (hbox); have GW101 := Le_.mk (ge_of hg HB.out); have GE101 := Le_.mk (ge_of hg HB.out); replace HB := kB HB hb; clear hb hbox hg; have hz14 := cells_5 BK101.out) | ((with_reducible refine gate_dst (N := 15) rfl ?_); refine Kd.R_lit Kd.string _ 9 ?hg (N := 15) ?hd (xs := ([(⟨#[101, 110, 100]⟩ : ByteArray), a0_0, a0_2, a0_3, a0_4] : List ByteArray)) (inner := [.string (⟨#[101, 110, 100]⟩ : ByteArray), .string a0_0, .string a0_2, .string a0_3, .string a0_4]) (ok := fun _ => True) (okp := fun _ => True) ?hr ?hp (fun _ hk => hk) trivial (Below.refl _ _) (Nat.le_refl _) (by simp) ?_; (case hd => rfl); (case hg => rfl); (case hr => first | (go_simp; done) | (go_simp; rfl)); (case hp => exact (Reps.one (show Kd.M Kd.string _ _ _ (⟨#[101, 110, 100]⟩ : ByteArray) [.string (⟨#[101, 110, 100]⟩ : ByteArray)] from rfl) (Reps.one (show Kd.M Kd.string _ _ _ a0_0 [.string a0_0] from rfl) (Reps.one (show Kd.M Kd.string _ _ _ a0_2 [.string a0_2] from rfl) (Reps.one (show Kd.M Kd.string _ _ _ a0_3 [.string a0_3] from rfl) (Reps.one (show Kd.M Kd.string _ _ _ a0_4 [.string a0_4] from rfl) (Reps.none _ _))))))); intro v107 w15 ho16 hb hg_ hnew_; clear hg_ hnew_; (first | rw [← Ny106.out] at ho16 | (simp only [Int.reduceToNat] at ho16; rw [← Ny106.out] at ho16)); have HO108 := Aside0.mk (Kd.R_lower ho16 (bz HB.out)); replace BK101 := kb BK101 hb; replace HB := kB HB hb; clear hb ho16; obtain ⟨Ao17, co17, eo17⟩ := Kd.R_slice HO108.out; subst eo17) | ((with_reducible refine gate_callee (f := 62) rfl ?_); refine goL (some 16) rfl rfl gf62 #[.slice Ao17 y106.length co17, .string (⟨#[32]⟩ : ByteArray)] rfl rfl ?_; (with_reducible refine (strings_Join.calls _ _ y106 (⟨#[32]⟩ : ByteArray) t109 _ (cx (Kd.R_reads' HO108.out).2.2) ((Kd.R_reads' HO108.out).2.1) A11.out).mono ?_); rintro e w18 ⟨rfl, hb⟩; refine ⟨_, rfl, ?_⟩; replace HO108 := kR HO108 hb; replace BK101 := kb BK101 hb; replace HB := kB HB hb; (try clear hb); (try clear hb2); (try clear hk); (try clear hi)))
    go_ret
    exact ⟨by rfl, bx HB.out⟩
end Go.Proofs.YtabindnaedchgaaDoor.M
end

section
-- Printed for this claim by a program (mprint.py) that uses the kit's print; Lean checks it.
namespace Go.Proofs.YtabindnaedchgaaDoor.M
open Go.RowKit Go.Proofs.YtabindnaedchgaaDoorW.PrintWords Go.Proofs.YtabindnaedchgaaDoorW.PrintLast Go.Proofs.YtabindnaedchgaaDoorW.PrintMore Go.Proofs.YtabindnaedchgaaDoor.Sq
set_option synthInstance.maxHeartbeats 2000000
set_option synthInstance.maxSize 4096
attribute [local go_sem] max2_int min2_int max_two min_two max_three min_three max_four min_four   -- for this text's walks alone
set_option linter.unusedVariables false
set_option linter.unusedSimpArgs false
mutual
def impl_DeltaPut.j0 : Nat → ByteArray → List ByteArray → List (S43) → Bool → List (S46) → Option (ByteArray)
  | 0, _, _, _, _, _ => none
  | k + 1, x3, x102000, x102001, x102002, x102003 => impl_DeltaPut.l0 k x3 x102003 (x102003.length : Int) 0 x102000 x102001 x102002 x102003
def impl_DeltaPut.l0 : Nat → ByteArray → List (S46) → Int → Int → List ByteArray → List (S43) → Bool → List (S46) → Option (ByteArray)
  | 0, _, _, _, _, _, _, _, _ => none
  | k + 1, x3, x16, x17, x18, x102000, x102001, x102002, x102003 => if x18 < x17 then (if 0 ≤ x18 then (if x18 < (x16.length : Int) then ((impl_affixLine.f ((rd_T46 x16 x18).f0) ((rd_T46 x16 x18).f1) ((rd_T46 x16 x18).f2) ((rd_T46 x16 x18).f3) ((rd_T46 x16 x18).f4)).bind fun t105 => (if x3.size + t105.size ≤ 9223372036854775807 then (impl_DeltaPut.l0 k (x3 ++ t105) x16 x17 (wrap64 (x18 + 1)) x102000 x102001 x102002 x102003) else (none))) else (none)) else (none)) else (impl_DeltaPut.l1 k x3 x102000 (x102000.length : Int) 0 x102000 x102001 x102002 x102003)
def impl_DeltaPut.l1 : Nat → ByteArray → List ByteArray → Int → Int → List ByteArray → List (S43) → Bool → List (S46) → Option (ByteArray)
  | 0, _, _, _, _, _, _, _, _ => none
  | k + 1, x3, x28, x29, x30, x102000, x102001, x102002, x102003 => if x30 < x29 then (if 0 ≤ x30 then (if x30 < (x28.length : Int) then (if 1 + (rdOf ByteArray.empty x28 x30).size ≤ 9223372036854775807 then (if ((⟨#[45]⟩ : ByteArray) ++ (rdOf ByteArray.empty x28 x30)).size + 1 ≤ 9223372036854775807 then (if x3.size + (((⟨#[45]⟩ : ByteArray) ++ (rdOf ByteArray.empty x28 x30)) ++ (⟨#[10]⟩ : ByteArray)).size ≤ 9223372036854775807 then (impl_DeltaPut.l1 k (x3 ++ (((⟨#[45]⟩ : ByteArray) ++ (rdOf ByteArray.empty x28 x30)) ++ (⟨#[10]⟩ : ByteArray))) x28 x29 (wrap64 (x30 + 1)) x102000 x102001 x102002 x102003) else (none)) else (none)) else (none)) else (none)) else (none)) else (impl_DeltaPut.l2 k x3 x102001 (x102001.length : Int) 0)
def impl_DeltaPut.l2 : Nat → ByteArray → List (S43) → Int → Int → Option (ByteArray)
  | 0, _, _, _, _ => none
  | k + 1, x3, x41, x42, x43 => if x43 < x42 then (if 0 ≤ x43 then (if x43 < (x41.length : Int) then ((impl_entryLine.f ((rd_T43 x41 x43).f0) ((rd_T43 x41 x43).f1)).bind fun t109 => (if 1 + t109.size ≤ 9223372036854775807 then (if x3.size + ((⟨#[43]⟩ : ByteArray) ++ t109).size ≤ 9223372036854775807 then (impl_DeltaPut.l2 k (x3 ++ ((⟨#[43]⟩ : ByteArray) ++ t109)) x41 x42 (wrap64 (x43 + 1))) else (none)) else (none))) else (none)) else (none)) else (some x3)
end
def impl_DeltaPut.f (k : Nat) (l0_0 : List ByteArray) (l0_1 : List (S43)) (a0_2 : Bool) (l0_3 : List (S46)) : Option (ByteArray) := (impl_DeltaOk.f k l0_0 l0_1 a0_2 l0_3).bind fun t102 => (if t102 = true then (if a0_2 = true then (impl_DeltaPut.j0 k (⟨#[97, 102, 102, 105, 120, 101, 115, 10]⟩ : ByteArray) l0_0 l0_1 a0_2 l0_3) else (impl_DeltaPut.j0 k (⟨#[]⟩ : ByteArray) l0_0 l0_1 a0_2 l0_3)) else (some (⟨#[]⟩ : ByteArray)))
theorem impl_DeltaPut.mono_l : ∀ k, (∀ y0 y1 y2 y3 y4, LeO (impl_DeltaPut.j0 k y0 y1 y2 y3 y4) (impl_DeltaPut.j0 (k + 1) y0 y1 y2 y3 y4)) ∧ (∀ y0 y1 y2 y3 y4 y5 y6 y7, LeO (impl_DeltaPut.l0 k y0 y1 y2 y3 y4 y5 y6 y7) (impl_DeltaPut.l0 (k + 1) y0 y1 y2 y3 y4 y5 y6 y7)) ∧ (∀ y0 y1 y2 y3 y4 y5 y6 y7, LeO (impl_DeltaPut.l1 k y0 y1 y2 y3 y4 y5 y6 y7) (impl_DeltaPut.l1 (k + 1) y0 y1 y2 y3 y4 y5 y6 y7)) ∧ (∀ y0 y1 y2 y3, LeO (impl_DeltaPut.l2 k y0 y1 y2 y3) (impl_DeltaPut.l2 (k + 1) y0 y1 y2 y3))
  | 0 => ⟨fun _ _ _ _ _ r h => by simp [impl_DeltaPut.j0] at h, fun _ _ _ _ _ _ _ _ r h => by simp [impl_DeltaPut.l0] at h, fun _ _ _ _ _ _ _ _ r h => by simp [impl_DeltaPut.l1] at h, fun _ _ _ _ r h => by simp [impl_DeltaPut.l2] at h⟩
  | k + 1 => by
    obtain ⟨ih0, ih1, ih2, ih3⟩ := impl_DeltaPut.mono_l k
    refine ⟨?_, ?_, ?_, ?_⟩
    · intro y0 y1 y2 y3 y4
      unfold impl_DeltaPut.j0
      have I0_ := fun x0_ x1_ x2_ x3_ x4_ => LeC.mk (ih0 x0_ x1_ x2_ x3_ x4_)
      have I1_ := fun x0_ x1_ x2_ x3_ x4_ x5_ x6_ x7_ => LeC.mk (ih1 x0_ x1_ x2_ x3_ x4_ x5_ x6_ x7_)
      have I2_ := fun x0_ x1_ x2_ x3_ x4_ x5_ x6_ x7_ => LeC.mk (ih2 x0_ x1_ x2_ x3_ x4_ x5_ x6_ x7_)
      have I3_ := fun x0_ x1_ x2_ x3_ => LeC.mk (ih3 x0_ x1_ x2_ x3_)
      have I4_ := fun x0_ x1_ x2_ x3_ x4_ => LeC.mk (impl_DeltaOk.mono x0_ x1_ x2_ x3_ x4_)
      exact LeC.out
    · intro y0 y1 y2 y3 y4 y5 y6 y7
      unfold impl_DeltaPut.l0
      have I0_ := fun x0_ x1_ x2_ x3_ x4_ => LeC.mk (ih0 x0_ x1_ x2_ x3_ x4_)
      have I1_ := fun x0_ x1_ x2_ x3_ x4_ x5_ x6_ x7_ => LeC.mk (ih1 x0_ x1_ x2_ x3_ x4_ x5_ x6_ x7_)
      have I2_ := fun x0_ x1_ x2_ x3_ x4_ x5_ x6_ x7_ => LeC.mk (ih2 x0_ x1_ x2_ x3_ x4_ x5_ x6_ x7_)
      have I3_ := fun x0_ x1_ x2_ x3_ => LeC.mk (ih3 x0_ x1_ x2_ x3_)
      have I4_ := fun x0_ x1_ x2_ x3_ x4_ => LeC.mk (impl_DeltaOk.mono x0_ x1_ x2_ x3_ x4_)
      exact LeC.out
    · intro y0 y1 y2 y3 y4 y5 y6 y7
      unfold impl_DeltaPut.l1
      have I0_ := fun x0_ x1_ x2_ x3_ x4_ => LeC.mk (ih0 x0_ x1_ x2_ x3_ x4_)
      have I1_ := fun x0_ x1_ x2_ x3_ x4_ x5_ x6_ x7_ => LeC.mk (ih1 x0_ x1_ x2_ x3_ x4_ x5_ x6_ x7_)
      have I2_ := fun x0_ x1_ x2_ x3_ x4_ x5_ x6_ x7_ => LeC.mk (ih2 x0_ x1_ x2_ x3_ x4_ x5_ x6_ x7_)
      have I3_ := fun x0_ x1_ x2_ x3_ => LeC.mk (ih3 x0_ x1_ x2_ x3_)
      have I4_ := fun x0_ x1_ x2_ x3_ x4_ => LeC.mk (impl_DeltaOk.mono x0_ x1_ x2_ x3_ x4_)
      exact LeC.out
    · intro y0 y1 y2 y3
      unfold impl_DeltaPut.l2
      have I0_ := fun x0_ x1_ x2_ x3_ x4_ => LeC.mk (ih0 x0_ x1_ x2_ x3_ x4_)
      have I1_ := fun x0_ x1_ x2_ x3_ x4_ x5_ x6_ x7_ => LeC.mk (ih1 x0_ x1_ x2_ x3_ x4_ x5_ x6_ x7_)
      have I2_ := fun x0_ x1_ x2_ x3_ x4_ x5_ x6_ x7_ => LeC.mk (ih2 x0_ x1_ x2_ x3_ x4_ x5_ x6_ x7_)
      have I3_ := fun x0_ x1_ x2_ x3_ => LeC.mk (ih3 x0_ x1_ x2_ x3_)
      have I4_ := fun x0_ x1_ x2_ x3_ x4_ => LeC.mk (impl_DeltaOk.mono x0_ x1_ x2_ x3_ x4_)
      exact LeC.out
theorem impl_DeltaPut.mono : ∀ a0 a1 a2 a3 k, LeO (impl_DeltaPut.f k a0 a1 a2 a3) (impl_DeltaPut.f (k + 1) a0 a1 a2 a3) := by
  intro a0 a1 a2 a3 k
  obtain ⟨ih0, ih1, ih2, ih3⟩ := impl_DeltaPut.mono_l k
  unfold impl_DeltaPut.f
  have I0_ := fun x0_ x1_ x2_ x3_ x4_ => LeC.mk (ih0 x0_ x1_ x2_ x3_ x4_)
  have I1_ := fun x0_ x1_ x2_ x3_ x4_ x5_ x6_ x7_ => LeC.mk (ih1 x0_ x1_ x2_ x3_ x4_ x5_ x6_ x7_)
  have I2_ := fun x0_ x1_ x2_ x3_ x4_ x5_ x6_ x7_ => LeC.mk (ih2 x0_ x1_ x2_ x3_ x4_ x5_ x6_ x7_)
  have I3_ := fun x0_ x1_ x2_ x3_ => LeC.mk (ih3 x0_ x1_ x2_ x3_)
  have I4_ := fun x0_ x1_ x2_ x3_ x4_ => LeC.mk (impl_DeltaOk.mono x0_ x1_ x2_ x3_ x4_)
  exact LeC.out
set_option maxHeartbeats 8000000 in
set_option maxRecDepth 100000 in
theorem impl_DeltaPut.calls (k : Nat) (A0_0 : Option Addr) (c0_0 : Nat) (l0_0 : List ByteArray) (A0_1 : Option Addr) (c0_1 : Nat) (l0_1 : List (S43)) (a0_2 : Bool) (A0_3 : Option Addr) (c0_3 : Nat) (l0_3 : List (S46)) (r : ByteArray) (w : World) (hr0_0 : Kd.C Kd.string w A0_0 l0_0.length l0_0) (hc0_0 : l0_0.length ≤ c0_0) (hr0_1 : Kd.C k43 w A0_1 l0_1.length l0_1) (hc0_1 : l0_1.length ≤ c0_1) (hr0_3 : Kd.C k46 w A0_3 l0_3.length l0_3) (hc0_3 : l0_3.length ≤ c0_3) (h : impl_DeltaPut.f k l0_0 l0_1 a0_2 l0_3 = some r) :
    Calls Tryd.prog 11 #[.agg #[.slice A0_0 l0_0.length c0_0, .slice A0_1 l0_1.length c0_1, .bool a0_2, .slice A0_3 l0_3.length c0_3]] w fun e w' => e = .returned (.string r) ∧ Below w.heap.size w w' := by
  have hu26 := Tryd.underlying26
  have hu46 := Tryd.underlying46
  have hu43 := Tryd.underlying43
  have HR0_0 := Aside0.mk hr0_0
  have HC0_0 := Aside0.mk hc0_0
  clear hr0_0 hc0_0
  have HR0_1 := Aside0.mk hr0_1
  have HC0_1 := Aside0.mk hc0_1
  clear hr0_1 hc0_1
  have HR0_3 := Aside0.mk hr0_3
  have HC0_3 := Aside0.mk hc0_3
  clear hr0_3 hc0_3
  have HB := Aside0.mk (Below.refl w.heap.size w)
  unfold impl_DeltaPut.f at h
  have H := h
  clear h
  replace H := Option.bind_eq_some_iff.mp H
  obtain ⟨t102, A20, H⟩ := H
  have A2 := Aside0.mk A20
  clear A20
  by_cases c3 : t102 = true
  · subst c3
    rw [if_pos rfl] at H
    have HC4 := Aside0.mk H
    clear H
    go_enter Tryd.func11, Tryd.ntmps11
    go_upto_if 14 with (first | ((with_reducible refine gate_dst (N := 1) rfl ?_); refine box_event rfl (N := 1) rfl (cs := #[.slice A0_0 l0_0.length c0_0, .slice A0_1 l0_1.length c0_1, .bool a0_2, .slice A0_3 l0_3.length c0_3]) (t := 26) (by go_simp <;> rfl) ?_; intro gb101 hg w5 hbox hb; have BK101 := Aside0.mk (hbox); have GW101 := Le_.mk (ge_of hg HB.out); have GE101 := Le_.mk (ge_of hg HB.out); replace HB := kB HB hb; clear hb hbox hg; have hz6 := cells_4 BK101.out) | ((with_reducible refine gate_callee (f := 23) rfl ?_); refine goL (some 11) rfl rfl gf23 #[.agg #[.slice A0_0 l0_0.length c0_0, .slice A0_1 l0_1.length c0_1, .bool a0_2, .slice A0_3 l0_3.length c0_3]] rfl rfl ?_; (with_reducible refine (impl_DeltaOk.calls k _ _ l0_0 _ _ l0_1 a0_2 _ _ l0_3 true _ (cx (Kd.C_below HR0_0.out HB.out)) HC0_0.out (cx (Kd.C_below HR0_1.out HB.out)) HC0_1.out (cx (Kd.C_below HR0_3.out HB.out)) HC0_3.out A2.out).mono ?_); rintro e w7 ⟨rfl, hb⟩; refine ⟨_, rfl, ?_⟩; replace BK101 := kb BK101 hb; replace HB := kB HB hb; (try clear hb); (try clear hb2); (try clear hk); (try clear hi); have hz8 := cells_4 BK101.out))
    (try simp only [Act.put, List.setIfInBounds_toArray, List.set_cons_zero, List.set_cons_succ])
    go_cut [3] (fun v3 wc => ∃ (kq : Nat) (x3_3 : ByteArray), v3 = .string x3_3 ∧ Aside0 (impl_DeltaPut.j0 kq x3_3 l0_0 l0_1 a0_2 l0_3 = some r) ∧ Aside0 (kq ≤ k) ∧ Aside0 (wc.heap[gb101]? = some (.cells #[(.slice A0_0 l0_0.length c0_0), (.slice A0_1 l0_1.length c0_1), .bool a0_2, (.slice A0_3 l0_3.length c0_3)] 26 (0, 0))) ∧ Aside0 (Below w.heap.size w wc))
    case first =>
      have H := HC4.out
      clear HC4
      by_cases c9 : a0_2 = true
      · subst c9
        rw [if_pos rfl] at H
        have H' := Aside0.mk H
        clear H
        go_wp2
        go_meet
        case rel => exact ⟨_, ((⟨#[97, 102, 102, 105, 120, 101, 115, 10]⟩ : ByteArray)), (by first | rfl | (simp; done) | (simp [*]; done)), H', ⟨by first | omega | exact Nat.le_refl _⟩, ⟨gx (BK101.out)⟩, ⟨bx HB.out⟩⟩
      · replace c9 := Bool.eq_false_iff.mpr c9
        subst c9
        rw [if_neg Bool.false_ne_true] at H
        have H' := Aside0.mk H
        clear H
        go_wp2
        go_meet
        case rel => exact ⟨_, ((⟨#[]⟩ : ByteArray)), (by first | rfl | (simp; done) | (simp [*]; done)), H', ⟨by first | omega | exact Nat.le_refl _⟩, ⟨gx (BK101.out)⟩, ⟨bx HB.out⟩⟩
    case rest =>
      clear HC4
      try clear c1
      try clear c2
      try clear p2
      try clear c3
      try clear c9
      try clear hz6
      try clear hz8
      obtain ⟨kq, x3_3, rfl, HA, HJ3, BK101, HB⟩ := hcut
      cases kq with
      | zero => exact absurd HA.out (by simp [impl_DeltaPut.j0])
      | succ kj3 =>
        have H := HA.out
        clear HA
        simp only [impl_DeltaPut.j0] at H
        have H' := Aside0.mk H
        clear H
        have hz10 := cells_4 BK101.out
        go_wp2
        go_loopg [3, 18] kj3 (fun kq v3 v18 w' => ∃ (x3_2 : ByteArray) (x18_2 : Int), v3 = .string x3_2 ∧ v18 = .int .i64 x18_2 ∧ Aside0 (impl_DeltaPut.l0 kq x3_2 l0_3 (l0_3.length : Int) x18_2 l0_0 l0_1 a0_2 l0_3 = some r) ∧ Aside0 (kq ≤ kj3) ∧ Aside0 (w'.heap[gb101]? = some (.cells #[(.slice A0_0 l0_0.length c0_0), (.slice A0_1 l0_1.length c0_1), .bool a0_2, (.slice A0_3 l0_3.length c0_3)] 26 (0, 0))) ∧ Aside0 (Below w.heap.size w w'))
        case atStart => exact ⟨(x3_3), (0), (by first | rfl | (simp; done) | (simp [*]; done)), (by first | rfl | (simp; done) | (simp [*]; done)), H', ⟨Nat.le_refl _⟩, ⟨gx (BK101.out)⟩, ⟨bx HB.out⟩⟩
        case round =>
          clear H'
          try clear c1
          try clear c2
          try clear p2
          try clear c3
          try clear c9
          try clear hz10
          try clear hz6
          try clear hz8
          try clear p2
          obtain ⟨x3_2, x18_2, rfl, rfl, HA, HK2, BK101, HB⟩ := hrel
          cases gk with
          | zero => exact absurd HA.out (by simp [impl_DeltaPut.l0])
          | succ k2 =>
            have H := HA.out
            clear HA
            simp only [impl_DeltaPut.l0] at H
            by_cases c11 : x18_2 < (l0_3.length : Int)
            · rw [if_pos c11] at H
              have c11b0 := decide_eq_true c11
              clear c11
              have c12 := ite_y H
              replace H := ite_t H
              have c12b0 := decide_eq_true c12
              clear c12
              have c13 := ite_y H
              replace H := ite_t H
              have c13b0 := decide_eq_true c13
              clear c13
              replace H := Option.bind_eq_some_iff.mp H
              obtain ⟨t105, A140, H⟩ := H
              have A14 := Aside0.mk A140
              clear A140
              have c15 := ite_y H
              replace H := ite_t H
              have c15b0 := eq_true c15
              have c15b1 := decide_eq_true c15
              try have c15b2 : (9223372036854775807 < x3_2.size + t105.size) = False := eq_false (Nat.not_lt.2 c15)
              have H' := Aside0.mk H
              clear H
              have p103 := of_decide_eq_true c12b0
              have q103 := of_decide_eq_true c13b0
              obtain ⟨ad103, e103, hx103_0, hx103_1, hx103_2, hx103_3, hx103_4⟩ := at_T46 HR0_3.out x18_2 p103 q103
              cases e103
              replace hx103_0 := px HB.out hx103_0
              replace hx103_1 := px HB.out hx103_1
              replace hx103_2 := px HB.out hx103_2
              replace hx103_3 := px HB.out hx103_3
              replace hx103_4 := px HB.out hx103_4
              replace p103 := eq_true p103
              replace q103 := eq_true q103
              go_wp2_with (first | ((with_reducible refine gate_dst (N := 5) rfl ?_); refine box_event rfl (N := 5) rfl (cs := #[.string (⟨#[]⟩ : ByteArray), .bool false, .string (⟨#[]⟩ : ByteArray), .string (⟨#[]⟩ : ByteArray), .string (⟨#[]⟩ : ByteArray)]) (t := 46) (by go_simp <;> rfl) ?_; intro gb104 hg w16 hbox hb; have BK104 := Aside0.mk (hbox); have GW104 := Le_.mk (ge_of hg HB.out); have GE104 := Le_.mk (ge_of hg HB.out); replace HB := kB HB hb; have NB101_104 := Ne_.mk ((by rw [hg]; exact Nat.ne_of_lt (blk_lt (gx (BK101.out))) : gb101 ≠ gb104)); have NB104_101 := Ne_.mk ((by rw [hg]; exact Nat.ne_of_gt (blk_lt (gx (BK101.out))) : gb104 ≠ gb101)); replace BK101 := kb BK101 hb; clear hb hbox hg; have hnb17 := NB104_101.out; have hnc17 := NB101_104.out; have hz18 := cells_5 BK104.out) | ((with_reducible refine gate_callee (f := 35) rfl ?_); refine goL (some 24) rfl rfl gf35 #[.agg #[.string ((rd_T46 l0_3 x18_2).f0), .bool ((rd_T46 l0_3 x18_2).f1), .string ((rd_T46 l0_3 x18_2).f2), .string ((rd_T46 l0_3 x18_2).f3), .string ((rd_T46 l0_3 x18_2).f4)]] rfl rfl ?_; (with_reducible refine (impl_affixLine.calls ((rd_T46 l0_3 x18_2).f0) ((rd_T46 l0_3 x18_2).f1) ((rd_T46 l0_3 x18_2).f2) ((rd_T46 l0_3 x18_2).f3) ((rd_T46 l0_3 x18_2).f4) t105 _ A14.out).mono ?_); rintro e w19 ⟨rfl, hb⟩; refine ⟨_, rfl, ?_⟩; replace BK101 := Aside0.mk (blk_below (g := gb101) (o := .cells #[.slice A0_0 l0_0.length c0_0, .slice A0_1 l0_1.length c0_1, .bool a0_2, .slice (some ad103) l0_3.length c0_3] 26 (0, 0)) (cl BK101.out rfl) hb); replace BK104 := Aside0.mk (blk_below (g := gb104) (o := .cells #[.string ((rd_T46 l0_3 x18_2).f0), .bool ((rd_T46 l0_3 x18_2).f1), .string ((rd_T46 l0_3 x18_2).f2), .string ((rd_T46 l0_3 x18_2).f3), .string ((rd_T46 l0_3 x18_2).f4)] 46 (0, 0)) (cl BK104.out rfl) hb); replace HB := kB HB hb; (try clear hb); (try clear hb2); (try clear hk); (try clear hi)))
              go_roundg k2
              case measure => have := HJ3.out; have := HK2.out; omega
              case rel => exact ⟨(x3_2 ++ t105), (wrap64 (x18_2 + 1)), (by first | rfl | (simp; done) | (simp [*]; done)), (by first | rfl | (simp; done) | (simp [*]; done)), H', ⟨by have := HJ3.out; have := HK2.out; omega⟩, ⟨gx (BK101.out)⟩, ⟨bx HB.out⟩⟩
            · rw [if_neg c11] at H
              have c11b0 := decide_eq_false c11
              clear c11
              have H' := Aside0.mk H
              clear H
              have hz20 := cells_4 BK101.out
              go_wp2
              go_loopg [3, 30] k2 (fun kq v3 v30 w' => ∃ (x3_3 : ByteArray) (x30_3 : Int), v3 = .string x3_3 ∧ v30 = .int .i64 x30_3 ∧ Aside0 (impl_DeltaPut.l1 kq x3_3 l0_0 (l0_0.length : Int) x30_3 l0_0 l0_1 a0_2 l0_3 = some r) ∧ Aside0 (kq ≤ k2) ∧ Aside0 (w'.heap[gb101]? = some (.cells #[(.slice A0_0 l0_0.length c0_0), (.slice A0_1 l0_1.length c0_1), .bool a0_2, (.slice A0_3 l0_3.length c0_3)] 26 (0, 0))) ∧ Aside0 (Below w.heap.size w w'))
              case atStart => exact ⟨(x3_2), (0), (by first | rfl | (simp; done) | (simp [*]; done)), (by first | rfl | (simp; done) | (simp [*]; done)), H', ⟨Nat.le_refl _⟩, ⟨gx (BK101.out)⟩, ⟨bx HB.out⟩⟩
              case round =>
                clear H'
                try clear c1
                try clear p1
                try clear q1
                try clear hx1
                try clear c2
                try clear p2
                try clear c3
                try clear p6
                try clear c9
                try clear p10
                try clear q10
                try clear hx10
                try clear c11
                try clear c11b0
                try clear c12
                try clear c12b0
                try clear c13
                try clear c13b0
                try clear c15
                try clear c15b0
                try clear c15b1
                try clear c15b2
                try clear c17
                try clear hz10
                try clear hz18
                try clear hz20
                try clear hz6
                try clear hz8
                try clear hx103_0
                try clear hx103_1
                try clear hx103_2
                try clear hx103_3
                try clear hx103_4
                try clear p103
                try clear p2
                try clear q103
                obtain ⟨x3_3, x30_3, rfl, rfl, HA, HK3, BK101, HB⟩ := hrel
                cases gk with
                | zero => exact absurd HA.out (by simp [impl_DeltaPut.l1])
                | succ k3 =>
                  have H := HA.out
                  clear HA
                  simp only [impl_DeltaPut.l1] at H
                  by_cases c21 : x30_3 < (l0_0.length : Int)
                  · rw [if_pos c21] at H
                    have c21b0 := decide_eq_true c21
                    clear c21
                    have c22 := ite_y H
                    replace H := ite_t H
                    have c22b0 := decide_eq_true c22
                    clear c22
                    have c23 := ite_y H
                    replace H := ite_t H
                    have c23b0 := decide_eq_true c23
                    clear c23
                    have c24 := ite_y H
                    replace H := ite_t H
                    have c24b0 := eq_true c24
                    have c24b1 := decide_eq_true c24
                    try have c24b2 : (9223372036854775807 < 1 + (rdOf ByteArray.empty l0_0 x30_3).size) = False := eq_false (Nat.not_lt.2 c24)
                    have c25 := ite_y H
                    replace H := ite_t H
                    have c25b0 := eq_true c25
                    have c25b1 := decide_eq_true c25
                    try have c25b2 : (9223372036854775807 < ((⟨#[45]⟩ : ByteArray) ++ (rdOf ByteArray.empty l0_0 x30_3)).size + 1) = False := eq_false (Nat.not_lt.2 c25)
                    try (have c25b3 := c25b2; simp only [ByteArray.size_append, show (⟨#[45]⟩ : ByteArray).size = 1 from rfl] at c25b3)
                    try (have c25h_ := c25; simp [go_sem, *] at c25h_; have c25b5 : (9223372036854775807 < 1 + (rdOf ByteArray.empty l0_0 x30_3).size + 1) = False := eq_false (by omega); clear c25h_)
                    have c26 := ite_y H
                    replace H := ite_t H
                    have c26b0 := eq_true c26
                    have c26b1 := decide_eq_true c26
                    try have c26b2 : (9223372036854775807 < x3_3.size + (((⟨#[45]⟩ : ByteArray) ++ (rdOf ByteArray.empty l0_0 x30_3)) ++ (⟨#[10]⟩ : ByteArray)).size) = False := eq_false (Nat.not_lt.2 c26)
                    try (have c26b3 := c26b2; simp only [ByteArray.size_append, show (⟨#[10]⟩ : ByteArray).size = 1 from rfl, show (⟨#[45]⟩ : ByteArray).size = 1 from rfl] at c26b3)
                    try (have c26h_ := c26; simp [go_sem, *] at c26h_; have c26b5 : (9223372036854775807 < x3_3.size + 1 + (rdOf ByteArray.empty l0_0 x30_3).size + 1) = False := eq_false (by omega); clear c26h_)
                    have H' := Aside0.mk H
                    clear H
                    have p106 := of_decide_eq_true c22b0
                    have q106 := of_decide_eq_true c23b0
                    obtain ⟨ad106, e106, hx106_0⟩ := Kd.at_string HR0_0.out x30_3 p106 q106
                    cases e106
                    replace hx106_0 := px HB.out hx106_0
                    replace p106 := eq_true p106
                    replace q106 := eq_true q106
                    go_wp2
                    go_roundg k3
                    case measure => have := HJ3.out; have := HK2.out; have := HK3.out; omega
                    case rel => exact ⟨(x3_3 ++ (((⟨#[45]⟩ : ByteArray) ++ (rdOf ByteArray.empty l0_0 x30_3)) ++ (⟨#[10]⟩ : ByteArray))), (wrap64 (x30_3 + 1)), (by first | rfl | (simp; done) | (simp [*]; done)), (by first | rfl | (simp; done) | (simp [*]; done)), H', ⟨by have := HJ3.out; have := HK2.out; have := HK3.out; omega⟩, ⟨gx (BK101.out)⟩, ⟨bx HB.out⟩⟩
                  · rw [if_neg c21] at H
                    have c21b0 := decide_eq_false c21
                    clear c21
                    have H' := Aside0.mk H
                    clear H
                    have hz27 := cells_4 BK101.out
                    go_wp2
                    go_loopg [3, 43] k3 (fun kq v3 v43 w' => ∃ (x3_4 : ByteArray) (x43_4 : Int), v3 = .string x3_4 ∧ v43 = .int .i64 x43_4 ∧ Aside0 (impl_DeltaPut.l2 kq x3_4 l0_1 (l0_1.length : Int) x43_4 = some r) ∧ Aside0 (kq ≤ k3) ∧ Aside0 (w'.heap[gb101]? = some (.cells #[(.slice A0_0 l0_0.length c0_0), (.slice A0_1 l0_1.length c0_1), .bool a0_2, (.slice A0_3 l0_3.length c0_3)] 26 (0, 0))) ∧ Aside0 (Below w.heap.size w w'))
                    case atStart => exact ⟨(x3_3), (0), (by first | rfl | (simp; done) | (simp [*]; done)), (by first | rfl | (simp; done) | (simp [*]; done)), H', ⟨Nat.le_refl _⟩, ⟨gx (BK101.out)⟩, ⟨bx HB.out⟩⟩
                    case round =>
                      clear H'
                      try clear c1
                      try clear p1
                      try clear q1
                      try clear hx1
                      try clear c2
                      try clear p2
                      try clear c3
                      try clear p6
                      try clear c9
                      try clear p10
                      try clear q10
                      try clear hx10
                      try clear c11
                      try clear c11b0
                      try clear c12
                      try clear c12b0
                      try clear c13
                      try clear c13b0
                      try clear c15
                      try clear c15b0
                      try clear c15b1
                      try clear c15b2
                      try clear c17
                      try clear c21
                      try clear c21b0
                      try clear c22
                      try clear c22b0
                      try clear c23
                      try clear c23b0
                      try clear c24
                      try clear c24b0
                      try clear c24b1
                      try clear c24b2
                      try clear c25
                      try clear c25b0
                      try clear c25b1
                      try clear c25b2
                      try clear c26
                      try clear c26b0
                      try clear c26b1
                      try clear c26b2
                      try clear hz10
                      try clear hz18
                      try clear hz20
                      try clear hz27
                      try clear hz6
                      try clear hz8
                      try clear hx103_0
                      try clear hx103_1
                      try clear hx103_2
                      try clear hx103_3
                      try clear hx103_4
                      try clear hx106_0
                      try clear p1
                      try clear p10
                      try clear p103
                      try clear p106
                      try clear p2
                      try clear p6
                      try clear q1
                      try clear q10
                      try clear q103
                      try clear q106
                      obtain ⟨x3_4, x43_4, rfl, rfl, HA, HK4, BK101, HB⟩ := hrel
                      cases gk with
                      | zero => exact absurd HA.out (by simp [impl_DeltaPut.l2])
                      | succ k4 =>
                        have H := HA.out
                        clear HA
                        simp only [impl_DeltaPut.l2] at H
                        by_cases c28 : x43_4 < (l0_1.length : Int)
                        · rw [if_pos c28] at H
                          have c28b0 := decide_eq_true c28
                          clear c28
                          have c29 := ite_y H
                          replace H := ite_t H
                          have c29b0 := decide_eq_true c29
                          clear c29
                          have c30 := ite_y H
                          replace H := ite_t H
                          have c30b0 := decide_eq_true c30
                          clear c30
                          replace H := Option.bind_eq_some_iff.mp H
                          obtain ⟨t109, A310, H⟩ := H
                          have A31 := Aside0.mk A310
                          clear A310
                          have c32 := ite_y H
                          replace H := ite_t H
                          have c32b0 := eq_true c32
                          have c32b1 := decide_eq_true c32
                          try have c32b2 : (9223372036854775807 < 1 + t109.size) = False := eq_false (Nat.not_lt.2 c32)
                          have c33 := ite_y H
                          replace H := ite_t H
                          have c33b0 := eq_true c33
                          have c33b1 := decide_eq_true c33
                          try have c33b2 : (9223372036854775807 < x3_4.size + ((⟨#[43]⟩ : ByteArray) ++ t109).size) = False := eq_false (Nat.not_lt.2 c33)
                          try (have c33b3 := c33b2; simp only [ByteArray.size_append, show (⟨#[43]⟩ : ByteArray).size = 1 from rfl] at c33b3)
                          try (have c33h_ := c33; simp [go_sem, *] at c33h_; have c33b5 : (9223372036854775807 < x3_4.size + 1 + t109.size) = False := eq_false (by omega); clear c33h_)
                          have H' := Aside0.mk H
                          clear H
                          have p107 := of_decide_eq_true c29b0
                          have q107 := of_decide_eq_true c30b0
                          obtain ⟨ad107, e107, hx107_0, hx107_1⟩ := at_T43 HR0_1.out x43_4 p107 q107
                          cases e107
                          replace hx107_0 := px HB.out hx107_0
                          replace hx107_1 := px HB.out hx107_1
                          replace p107 := eq_true p107
                          replace q107 := eq_true q107
                          go_wp2_with (first | ((with_reducible refine gate_dst (N := 9) rfl ?_); refine box_event rfl (N := 9) rfl (cs := #[.string (⟨#[]⟩ : ByteArray), .string (⟨#[]⟩ : ByteArray)]) (t := 43) (by go_simp <;> rfl) ?_; intro gb108 hg w34 hbox hb; have BK108 := Aside0.mk (hbox); have GW108 := Le_.mk (ge_of hg HB.out); have GE108 := Le_.mk (ge_of hg HB.out); replace HB := kB HB hb; have NB101_108 := Ne_.mk ((by rw [hg]; exact Nat.ne_of_lt (blk_lt (gx (BK101.out))) : gb101 ≠ gb108)); have NB108_101 := Ne_.mk ((by rw [hg]; exact Nat.ne_of_gt (blk_lt (gx (BK101.out))) : gb108 ≠ gb101)); replace BK101 := kb BK101 hb; clear hb hbox hg; have hnb35 := NB108_101.out; have hnc35 := NB101_108.out; have hz36 := cells_2 BK108.out) | ((with_reducible refine gate_callee (f := 36) rfl ?_); refine goL (some 49) rfl rfl gf36 #[.agg #[.string ((rd_T43 l0_1 x43_4).f0), .string ((rd_T43 l0_1 x43_4).f1)]] rfl rfl ?_; (with_reducible refine (impl_entryLine.calls ((rd_T43 l0_1 x43_4).f0) ((rd_T43 l0_1 x43_4).f1) t109 _ A31.out).mono ?_); rintro e w37 ⟨rfl, hb⟩; refine ⟨_, rfl, ?_⟩; replace BK101 := Aside0.mk (blk_below (g := gb101) (o := .cells #[.slice A0_0 l0_0.length c0_0, .slice (some ad107) l0_1.length c0_1, .bool a0_2, .slice A0_3 l0_3.length c0_3] 26 (0, 0)) (cl BK101.out rfl) hb); replace BK108 := Aside0.mk (blk_below (g := gb108) (o := .cells #[.string ((rd_T43 l0_1 x43_4).f0), .string ((rd_T43 l0_1 x43_4).f1)] 43 (0, 0)) (cl BK108.out rfl) hb); replace HB := kB HB hb; (try clear hb); (try clear hb2); (try clear hk); (try clear hi)))
                          go_roundg k4
                          case measure => have := HJ3.out; have := HK2.out; have := HK3.out; have := HK4.out; omega
                          case rel => exact ⟨(x3_4 ++ ((⟨#[43]⟩ : ByteArray) ++ t109)), (wrap64 (x43_4 + 1)), (by first | rfl | (simp; done) | (simp [*]; done)), (by first | rfl | (simp; done) | (simp [*]; done)), H', ⟨by have := HJ3.out; have := HK2.out; have := HK3.out; have := HK4.out; omega⟩, ⟨gx (BK101.out)⟩, ⟨bx HB.out⟩⟩
                        · rw [if_neg c28] at H
                          have c28b0 := decide_eq_false c28
                          clear c28
                          obtain rfl := Option.some.inj H
                          go_wp2
                          go_ret
                          exact ⟨by rfl, bx HB.out⟩
  · replace c3 := Bool.eq_false_iff.mpr c3
    subst c3
    rw [if_neg Bool.false_ne_true] at H
    obtain rfl := Option.some.inj H
    go_enter Tryd.func11, Tryd.ntmps11
    go_wp2_with (first | ((with_reducible refine gate_dst (N := 1) rfl ?_); refine box_event rfl (N := 1) rfl (cs := #[.slice A0_0 l0_0.length c0_0, .slice A0_1 l0_1.length c0_1, .bool a0_2, .slice A0_3 l0_3.length c0_3]) (t := 26) (by go_simp <;> rfl) ?_; intro gb101 hg w38 hbox hb; have BK101 := Aside0.mk (hbox); have GW101 := Le_.mk (ge_of hg HB.out); have GE101 := Le_.mk (ge_of hg HB.out); replace HB := kB HB hb; clear hb hbox hg; have hz39 := cells_4 BK101.out) | ((with_reducible refine gate_callee (f := 23) rfl ?_); refine goL (some 11) rfl rfl gf23 #[.agg #[.slice A0_0 l0_0.length c0_0, .slice A0_1 l0_1.length c0_1, .bool a0_2, .slice A0_3 l0_3.length c0_3]] rfl rfl ?_; (with_reducible refine (impl_DeltaOk.calls k _ _ l0_0 _ _ l0_1 a0_2 _ _ l0_3 false _ (cx (Kd.C_below HR0_0.out HB.out)) HC0_0.out (cx (Kd.C_below HR0_1.out HB.out)) HC0_1.out (cx (Kd.C_below HR0_3.out HB.out)) HC0_3.out A2.out).mono ?_); rintro e w40 ⟨rfl, hb⟩; refine ⟨_, rfl, ?_⟩; replace BK101 := kb BK101 hb; replace HB := kB HB hb; (try clear hb); (try clear hb2); (try clear hk); (try clear hi)))
    go_ret
    exact ⟨by rfl, bx HB.out⟩
end Go.Proofs.YtabindnaedchgaaDoor.M
end

section
-- Printed for this claim by a program (mprint.py) that uses the kit's print; Lean checks it.
namespace Go.Proofs.YtabindnaedchgaaDoor.M
open Go.RowKit Go.Proofs.YtabindnaedchgaaDoorW.PrintWords Go.Proofs.YtabindnaedchgaaDoorW.PrintLast Go.Proofs.YtabindnaedchgaaDoorW.PrintMore Go.Proofs.YtabindnaedchgaaDoor.Sq
set_option synthInstance.maxHeartbeats 2000000
set_option synthInstance.maxSize 4096
attribute [local go_sem] max2_int min2_int max_two min_two max_three min_three max_four min_four   -- for this text's walks alone
set_option linter.unusedVariables false
set_option linter.unusedSimpArgs false
theorem gf48 : Go_ Tryd.prog 48 Tryd.f48 := ⟨Tryd.func48, by kernel_rfl, rfl⟩
def strings_Split.f (a0 : ByteArray) (a1 : ByteArray) : Option (List ByteArray) := if a0.size < 4294967281 then (if 1 ≤ a1.size then (some (Lib.splitB a1 0 (Lib.countB a0 a1) a0)) else (none)) else (none)
theorem strings_Split.calls (a0 : ByteArray) (a1 : ByteArray) (r : List ByteArray) (w : World) (hGm : GWm w) (h : strings_Split.f a0 a1 = some r) :
    Calls Tryd.prog 48 #[.string a0, .string a1] w fun e w' => ∃ v0_ : Value, e = .returned (v0_) ∧ Kd.R Kd.string 9 w' w.heap.size (fun _ => True) v0_ r ∧ Below w.heap.size w w' := by
  unfold strings_Split.f at h
  by_cases h0 : a0.size < 4294967281
  · rw [if_pos h0] at h
    by_cases h1 : 1 ≤ a1.size
    · rw [if_pos h1] at h
      obtain rfl := Option.some.inj h
      obtain ⟨m, hm⟩ := hGm.out
      refine (Go.Proofs.Tryd.strings_Split a0 a1 m w h0 hm h1).mono ?_
      rintro e w' ⟨rfl, rfl⟩
      have hlen : (Lib.splitB a1 0 (Lib.countB a0 a1) a0).length = Lib.countB a0 a1 + 1 := Lib.splitB_all a1 h1 0 _ a0 rfl
      rw [← hlen]
      exact ⟨_, rfl, strs_made w 9 _ (by rw [hlen]; have := Lib.countB_le a1 h1 a0.size a0 (Nat.le_refl _); omega), below_alloc (Below.refl _ _) _⟩
    · rw [if_neg h1] at h
      cases h
  · rw [if_neg h0] at h
    cases h
end Go.Proofs.YtabindnaedchgaaDoor.M
end

section
-- Printed for this claim by a program (mprint.py) that uses the kit's print; Lean checks it.
namespace Go.Proofs.YtabindnaedchgaaDoor.M
open Go.RowKit Go.Proofs.YtabindnaedchgaaDoorW.PrintWords Go.Proofs.YtabindnaedchgaaDoorW.PrintLast Go.Proofs.YtabindnaedchgaaDoorW.PrintMore Go.Proofs.YtabindnaedchgaaDoor.Sq
set_option synthInstance.maxHeartbeats 2000000
set_option synthInstance.maxSize 4096
attribute [local go_sem] max2_int min2_int max_two min_two max_three min_three max_four min_four   -- for this text's walks alone
set_option linter.unusedVariables false
set_option linter.unusedSimpArgs false
theorem gf19 : Go_ Tryd.prog 19 Tryd.f19 := ⟨Tryd.func19, by kernel_rfl, rfl⟩
def impl_linesOf.f (a0 : ByteArray) : Option (List ByteArray) := (strings_Split.f a0 (⟨#[10]⟩ : ByteArray)).bind fun t101 => (if 0 ≤ (wrap64 ((t101.length : Int) - 1)) then (if (wrap64 ((t101.length : Int) - 1)) ≤ (t101.length : Int) then (some (t101.take ((wrap64 ((t101.length : Int) - 1)) : Int).toNat)) else (none)) else (none))
set_option maxHeartbeats 8000000 in
set_option maxRecDepth 100000 in
theorem impl_linesOf.calls (a0 : ByteArray) (r : List ByteArray) (w : World) (hGm : GWm w) (h : impl_linesOf.f a0 = some r) :
    Calls Tryd.prog 19 #[.string a0] w fun e w' => ∃ v0_ : Value, e = .returned (v0_) ∧ Kd.R Kd.string 9 w' w.heap.size (fun _ => True) v0_ r ∧ Below w.heap.size w w' := by
  have HGWm := Aside0.mk hGm
  clear hGm
  have HB := Aside0.mk (Below.refl w.heap.size w)
  unfold impl_linesOf.f at h
  have H := h
  clear h
  replace H := Option.bind_eq_some_iff.mp H
  obtain ⟨t101, A20, H⟩ := H
  have A2 := Aside0.mk A20
  clear A20
  obtain ⟨ji3, hji3⟩ : ∃ j_ : Int, (wrap64 ((t101.length : Int) - 1)) = j_ := ⟨_, rfl⟩
  replace H : (if 0 ≤ (ji3) then (if (ji3) ≤ (t101.length : Int) then (some (t101.take ((ji3) : Int).toNat)) else (none)) else (none)) = some r := by first | (rw [hji3] at H; exact H) | (simp only [hji3] at H ⊢; exact H)
  (try rw [hji3] at A2)
  have hji3w : (IntKind.i64.wrap ((t101.length : Int) - 1)) = ji3 := (i64_w _).trans hji3
  have c4 := ite_y H
  replace H := ite_t H
  have c4b0 := eq_true c4
  have c4b1 := decide_eq_true c4
  clear c4
  have c5 := ite_y H
  replace H := ite_t H
  have c5b0 := eq_true c5
  have c5b1 := decide_eq_true c5
  clear c5
  obtain ⟨y104, hy104⟩ : ∃ y_ : List ByteArray, y_ = (t101.take ((ji3) : Int).toNat) := ⟨_, rfl⟩
  replace H : (some y104) = some r := by first | (rw [hy104]; with_reducible exact H) | (have H2_ := (Option.bind_some _ _).symm.trans H; rw [hy104]; with_reducible exact H2_) | (have H2_ := (Option.bind_some _ _).symm.trans H; with_reducible exact H2_) | with_reducible exact H | (rw [hy104]; exact H) | exact H
  have Ny104 := Aside0.mk hy104
  clear hy104
  obtain rfl := Option.some.inj H
  go_enter Tryd.func19, Tryd.ntmps19
  go_wp2_with (first | ((with_reducible refine gate_callee (f := 48) rfl ?_); refine goL (some 5) rfl rfl gf48 #[.string a0, .string (⟨#[10]⟩ : ByteArray)] rfl rfl ?_; (with_reducible refine (strings_Split.calls a0 (⟨#[10]⟩ : ByteArray) t101 _ (GWm.below HGWm.out (bx HB.out)) A2.out).mono ?_); rintro e w6 ⟨v102, rfl, ho0, hb⟩; refine ⟨_, rfl, ?_⟩; have HO103 := Aside0.mk (Kd.R_lower ho0 (bz HB.out)); replace HB := kB HB hb; (try clear hb); (try clear hb2); (try clear hk); (try clear hi); (try clear ho0); obtain ⟨Ao7, co7, eo7⟩ := Kd.R_slice HO103.out; subst eo7; have q8 : ((ji3) : Int) ≤ ((t101.length : Int) : Int) := of_decide_eq_true (by with_reducible assumption); obtain ⟨i08, hi08, _, hsz8, _⟩ := info_parts info9; have hcut8 := cut_to (P := Tryd.prog) 22 9 .i64 Tryd.underlying22 hi08 Ao7 t101.length co7 (ji3) (of_decide_eq_true (by with_reducible assumption)) q8 (Kd.R_reads' HO103.out).2.1; have hr8 := Kd.R_take (m := ((ji3) : Int).toNat) HO103.out (by first | omega | (have e_ := (Kd.R_reads' HO103.out).1; omega)); have hy8 : y104.length = ((ji3) : Int).toNat := (by rw [Ny104.out, List.length_take]; first | omega | (have e_ := (Kd.R_reads' HO103.out).1; omega)); rw [← Ny104.out] at hr8; rw [← hy8] at hr8 hcut8; clear hy8 hi08 hsz8 HO103; have HO106 := Aside0.mk hr8; clear hr8; replace q8 := eq_true q8))
  go_ret
  exact ⟨_, by first | rfl | (simp [errW_none, errW_some] <;> rfl) | (simp only [← hji3]; first | rfl | (simp [errW_none, errW_some] <;> rfl)) | (simp [*, errW_none, errW_some] <;> rfl), rx HO106.out, bx HB.out⟩
end Go.Proofs.YtabindnaedchgaaDoor.M
end

section
-- Printed for this claim by a program (mprint.py) that uses the kit's print; Lean checks it.
namespace Go.Proofs.YtabindnaedchgaaDoor.M
open Go.RowKit Go.Proofs.YtabindnaedchgaaDoorW.PrintWords Go.Proofs.YtabindnaedchgaaDoorW.PrintLast Go.Proofs.YtabindnaedchgaaDoorW.PrintMore Go.Proofs.YtabindnaedchgaaDoor.Sq
set_option synthInstance.maxHeartbeats 2000000
set_option synthInstance.maxSize 4096
attribute [local go_sem] max2_int min2_int max_two min_two max_three min_three max_four min_four   -- for this text's walks alone
set_option linter.unusedVariables false
set_option linter.unusedSimpArgs false
theorem gf22 : Go_ Tryd.prog 22 Tryd.f22 := ⟨Tryd.func22, by kernel_rfl, rfl⟩
def impl_readAffix.f (a0 : ByteArray) : Option (ByteArray × Bool × ByteArray × ByteArray × ByteArray) := (strings_Split.f a0 (⟨#[32]⟩ : ByteArray)).bind fun t102 => ((some (([(⟨#[]⟩ : ByteArray), (⟨#[]⟩ : ByteArray), (⟨#[]⟩ : ByteArray), (⟨#[]⟩ : ByteArray)] : List ByteArray) : List ByteArray)).bind fun y105 => (if t102.length + y105.length < 8796093022208 then ((some (t102 ++ y105 : List ByteArray)).bind fun y108 => (if 1 < (y108.length : Int) then (if 0 < (y108.length : Int) then (if 2 < (y108.length : Int) then (if 3 < (y108.length : Int) then (if 4 < (y108.length : Int) then (some (rdOf ByteArray.empty y108 1, ((rdOf ByteArray.empty y108 0).toList == ([102, 114, 111, 110, 116] : List UInt8)), rdOf ByteArray.empty y108 2, rdOf ByteArray.empty y108 3, rdOf ByteArray.empty y108 4)) else (none)) else (none)) else (none)) else (none)) else (none))) else (none)))
def impl_readAffix.T2 : Bool × List (List Nat × List Nat) := (true, [([], []), ([0], [0]), ([1], [1]), ([], []), ([3], [3]), ([4], [4]), ([5], [5]), ([], []), ([7], [7]), ([8], [8]), ([], []), ([10], [10]), ([11], [11]), ([], []), ([13], [13]), ([14], [14]), ([2, 6, 9, 12, 15], [2, 6, 9, 12, 15]), ([16, 0, 1, 2, 3, 4, 5, 6, 7, 8, 9, 10, 11, 12, 13, 14, 15, 16], [16])])
def impl_readAffix.B2 : List Nat := [0, 1, 3, 0, 8, 24, 56, 0, 128, 384, 0, 1024, 3072, 0, 8192, 24576, 65535, 131071]
theorem impl_readAffix.tab2 : rtab .any (opsOf Tryd.f22 2) = impl_readAffix.T2 := by kernel_rfl
theorem impl_readAffix.bits2 : waitsOk impl_readAffix.T2.2 impl_readAffix.B2 = true := by kernel_rfl
set_option maxHeartbeats 8000000 in
set_option maxRecDepth 100000 in
theorem impl_readAffix.calls (a0 : ByteArray) (r1 : ByteArray) (r2 : Bool) (r3 : ByteArray) (r4 : ByteArray) (r5 : ByteArray) (w : World) (hGm : GWm w) (h : impl_readAffix.f a0 = some (r1, r2, r3, r4, r5)) :
    Calls Tryd.prog 22 #[.string a0] w fun e w' => e = .returned (.agg #[.string r1, .bool r2, .string r3, .string r4, .string r5]) ∧ Below w.heap.size w w' := by
  have hu46 := Tryd.underlying46
  have HGWm := Aside0.mk hGm
  clear hGm
  have HB := Aside0.mk (Below.refl w.heap.size w)
  unfold impl_readAffix.f at h
  have H := h
  clear h
  replace H := Option.bind_eq_some_iff.mp H
  obtain ⟨t102, A20, H⟩ := H
  have A2 := Aside0.mk A20
  clear A20
  obtain ⟨y105, hy105⟩ : ∃ y_ : List ByteArray, y_ = (([(⟨#[]⟩ : ByteArray), (⟨#[]⟩ : ByteArray), (⟨#[]⟩ : ByteArray), (⟨#[]⟩ : ByteArray)] : List ByteArray)) := ⟨_, rfl⟩
  replace H : (if t102.length + y105.length < 8796093022208 then ((some (t102 ++ y105 : List ByteArray)).bind fun y108 => (if 1 < (y108.length : Int) then (if 0 < (y108.length : Int) then (if 2 < (y108.length : Int) then (if 3 < (y108.length : Int) then (if 4 < (y108.length : Int) then (some (rdOf ByteArray.empty y108 1, ((rdOf ByteArray.empty y108 0).toList == ([102, 114, 111, 110, 116] : List UInt8)), rdOf ByteArray.empty y108 2, rdOf ByteArray.empty y108 3, rdOf ByteArray.empty y108 4)) else (none)) else (none)) else (none)) else (none)) else (none))) else (none)) = some (r1, r2, r3, r4, r5) := by first | (rw [hy105]; with_reducible exact H) | (have H2_ := (Option.bind_some _ _).symm.trans H; rw [hy105]; with_reducible exact H2_) | (have H2_ := (Option.bind_some _ _).symm.trans H; with_reducible exact H2_) | with_reducible exact H | (rw [hy105]; exact H) | exact H
  have Ny105 := Aside0.mk hy105
  clear hy105
  have c3 := ite_y H
  replace H := ite_t H
  have LMc3 := Aside0.mk c3
  clear c3
  obtain ⟨y108, hy108⟩ : ∃ y_ : List ByteArray, y_ = (t102 ++ y105) := ⟨_, rfl⟩
  replace H : (if 1 < (y108.length : Int) then (if 0 < (y108.length : Int) then (if 2 < (y108.length : Int) then (if 3 < (y108.length : Int) then (if 4 < (y108.length : Int) then (some (rdOf ByteArray.empty y108 1, ((rdOf ByteArray.empty y108 0).toList == ([102, 114, 111, 110, 116] : List UInt8)), rdOf ByteArray.empty y108 2, rdOf ByteArray.empty y108 3, rdOf ByteArray.empty y108 4)) else (none)) else (none)) else (none)) else (none)) else (none)) = some (r1, r2, r3, r4, r5) := by first | (rw [hy108]; with_reducible exact H) | (have H2_ := (Option.bind_some _ _).symm.trans H; rw [hy108]; with_reducible exact H2_) | (have H2_ := (Option.bind_some _ _).symm.trans H; with_reducible exact H2_) | with_reducible exact H | (rw [hy108]; exact H) | exact H
  have Ny108 := Aside0.mk hy108
  clear hy108
  have c4 := ite_y H
  replace H := ite_t H
  have c4b0 := decide_eq_true c4
  have c4b1 : decide (1 < y108.length) = true := decide_eq_true (by omega)
  clear c4
  have c5 := ite_y H
  replace H := ite_t H
  have c5b0 := decide_eq_true c5
  have c5b1 : decide (0 < y108.length) = true := decide_eq_true (by omega)
  clear c5
  have c6 := ite_y H
  replace H := ite_t H
  have c6b0 := decide_eq_true c6
  have c6b1 : decide (2 < y108.length) = true := decide_eq_true (by omega)
  clear c6
  have c7 := ite_y H
  replace H := ite_t H
  have c7b0 := decide_eq_true c7
  have c7b1 : decide (3 < y108.length) = true := decide_eq_true (by omega)
  clear c7
  have c8 := ite_y H
  replace H := ite_t H
  have c8b0 := decide_eq_true c8
  have c8b1 : decide (4 < y108.length) = true := decide_eq_true (by omega)
  clear c8
  simp only [Option.some.injEq, Prod.mk.injEq] at H
  obtain ⟨rfl, rfl, rfl, rfl, rfl⟩ := H
  go_enter Tryd.func22, Tryd.ntmps22
  try go_wp2_with (first | ((with_reducible refine gate_dst (N := 2) rfl ?_); refine box_event rfl (N := 2) rfl (cs := #[.string (⟨#[]⟩ : ByteArray), .bool false, .string (⟨#[]⟩ : ByteArray), .string (⟨#[]⟩ : ByteArray), .string (⟨#[]⟩ : ByteArray)]) (t := 46) (by go_simp <;> rfl) ?_; intro gb101 hg w9 hbox hb; have BK101 := Aside0.mk (hbox); have GW101 := Le_.mk (ge_of hg HB.out); have GE101 := Le_.mk (ge_of hg HB.out); replace HB := kB HB hb; clear hb hbox hg) | ((with_reducible refine gate_callee (f := 48) rfl ?_); refine goL (some 5) rfl rfl gf48 #[.string a0, .string (⟨#[32]⟩ : ByteArray)] rfl rfl ?_; (with_reducible refine (strings_Split.calls a0 (⟨#[32]⟩ : ByteArray) t102 _ (GWm.below HGWm.out (bx HB.out)) A2.out).mono ?_); rintro e w10 ⟨v103, rfl, ho0, hb⟩; refine ⟨_, rfl, ?_⟩; have HO104 := Aside0.mk (Kd.R_lower ho0 (bz HB.out)); replace BK101 := kb BK101 hb; replace HB := kB HB hb; (try clear hb); (try clear hb2); (try clear hk); (try clear hi); (try clear ho0)) | ((with_reducible refine gate_dst (N := 6) rfl ?_); refine Kd.R_lit Kd.string _ 9 ?hg (N := 6) ?hd (xs := ([(⟨#[]⟩ : ByteArray), (⟨#[]⟩ : ByteArray), (⟨#[]⟩ : ByteArray), (⟨#[]⟩ : ByteArray)] : List ByteArray)) (inner := [.string (⟨#[]⟩ : ByteArray), .string (⟨#[]⟩ : ByteArray), .string (⟨#[]⟩ : ByteArray), .string (⟨#[]⟩ : ByteArray)]) (ok := fun _ => True) (okp := fun _ => True) ?hr ?hp (fun _ hk => hk) trivial (Below.refl _ _) (Nat.le_refl _) (by simp) ?_; (case hd => rfl); (case hg => rfl); (case hr => first | (go_simp; done) | (go_simp; rfl)); (case hp => exact (Reps.one (show Kd.M Kd.string _ _ _ (⟨#[]⟩ : ByteArray) [.string (⟨#[]⟩ : ByteArray)] from rfl) (Reps.one (show Kd.M Kd.string _ _ _ (⟨#[]⟩ : ByteArray) [.string (⟨#[]⟩ : ByteArray)] from rfl) (Reps.one (show Kd.M Kd.string _ _ _ (⟨#[]⟩ : ByteArray) [.string (⟨#[]⟩ : ByteArray)] from rfl) (Reps.one (show Kd.M Kd.string _ _ _ (⟨#[]⟩ : ByteArray) [.string (⟨#[]⟩ : ByteArray)] from rfl) (Reps.none _ _)))))); intro v106 w11 ho12 hb hg_ hnew_; clear hg_ hnew_; (first | rw [← Ny105.out] at ho12 | (simp only [Int.reduceToNat] at ho12; rw [← Ny105.out] at ho12)); have HO107 := Aside0.mk (Kd.R_lower (Kd.R_new' ho12 (Kd.R_lt (rx HO104.out))) (bz HB.out)); replace HO104 := Aside0.mk (Kd.R_elder' (rx HO104.out) (Kd.R_base ho12) hb); replace BK101 := kb BK101 hb; replace HB := kB HB hb; clear hb ho12; obtain ⟨Ao14, co14, eo14⟩ := Kd.R_slice HO107.out; subst eo14) | ((with_reducible refine gate_builtin (b := .append) (xs := #[.tmp 5, .tmp 6]) rfl ?_); at_builtin; refine Kd.R_append_rows Kd.string (w0 := w) w.heap.size rfl (.tmp 5) (.tmp 6) 22 9 (.string ⟨#[]⟩) 16 rfl Tryd.underlying22 info9 rfl (by decide) (by omega) v103 t102 y105 _ _ _ (fun k_ => some k_ ≠ (.slice Ao14 y105.length co14 : Value).ownBlock) (fun _ => False) rfl rfl ?aO ?aR (fun _ _ h => h) (fun _ h => h.elim) ?aF ?aB ?aS ?aL ?_; (case aR => exact cx (Kd.R_reads' HO107.out).2.2); (case aB => exact (bx HB.out)); (case aF => exact (fun k_ hk => Kd.fresh' (Kd.R_lt (rx HO107.out)) k_ hk)); (case aO => exact (rx (Kd.R_mono HO104.out (fun _ hk => hk.2)))); (case aS => exact (bz HB.out)); (case aL => have := LMc3.out; omega); intro v109 w13 ho hb hg hat; rw [← Ny108.out] at ho; replace BK101 := Aside0.mk (blk_grown (g := gb101) (o := .cells #[.string (⟨#[]⟩ : ByteArray), .bool false, .string (⟨#[]⟩ : ByteArray), .string (⟨#[]⟩ : ByteArray), .string (⟨#[]⟩ : ByteArray)] 46 (0, 0)) (gx (BK101.out)) hg (Kd.R_ne HO104.out BK101.out (by decide))); replace HO107 := Aside0.mk (Kd.R_after (ok := (fun _ => True)) (rx HO107.out) hg hat); replace HB := Aside0.mk (hb); have HO110 := Aside0.mk (ho); clear HO104; clear ho hb hg hat))
  replace HO107 := Aside0.mk (Kd.R_drew HO107.out)
  replace HO110 := Aside0.mk (Kd.R_drew HO110.out)
  replace BK101 := Aside0.mk (blk_drew BK101.out)
  replace HB := Aside0.mk (below_drew1 HB.out)
  obtain ⟨Ao16, co16, eo16⟩ := Kd.R_slice HO110.out
  (first | subst eo16 | (injection eo16 with f1_ f2_ f3_; have f4_ := f1_.symm; have f5_ := f3_.symm; clear f1_ f2_ f3_; subst f4_; subst f5_))
  have p111 : 0 ≤ (1 : Int) := (by omega)
  have q111 := of_decide_eq_true c4b0
  obtain ⟨ad111, e111, hx111_0⟩ := Kd.at_string (Kd.R_reads' HO110.out).2.2 1 p111 q111
  cases e111
  (try simp only [show (1 : Int).toNat = 1 from rfl, Nat.reduceMul, Nat.reduceEqDiff, Go.Addr.add, ↓reduceIte] at hx111_0)
  have qi111 : (1 < y108.length) = True := eq_true (by omega)
  (try rw [show ((1 : Int)).toNat = 1 from rfl] at hx111_0)
  replace p111 := eq_true p111
  replace q111 := eq_true q111
  have p112 : 0 ≤ (0 : Int) := (by omega)
  have q112 := of_decide_eq_true c5b0
  obtain ⟨ad112, e112, hx112_0⟩ := Kd.at_string (Kd.R_reads' HO110.out).2.2 0 p112 q112
  obtain rfl : ad111 = ad112 := (by injection e112)
  have qi112 : (0 < y108.length) = True := eq_true (by omega)
  (try rw [show ((0 : Int)).toNat = 0 from rfl] at hx112_0)
  (try rw [Addr.add_zero'] at hx112_0)
  replace p112 := eq_true p112
  replace q112 := eq_true q112
  have p113 : 0 ≤ (2 : Int) := (by omega)
  have q113 := of_decide_eq_true c6b0
  obtain ⟨ad113, e113, hx113_0⟩ := Kd.at_string (Kd.R_reads' HO110.out).2.2 2 p113 q113
  obtain rfl : ad111 = ad113 := (by injection e113)
  (try simp only [show (2 : Int).toNat = 2 from rfl, Nat.reduceMul, Nat.reduceEqDiff, Go.Addr.add, ↓reduceIte] at hx113_0)
  have qi113 : (2 < y108.length) = True := eq_true (by omega)
  (try rw [show ((2 : Int)).toNat = 2 from rfl] at hx113_0)
  replace p113 := eq_true p113
  replace q113 := eq_true q113
  have p114 : 0 ≤ (3 : Int) := (by omega)
  have q114 := of_decide_eq_true c7b0
  obtain ⟨ad114, e114, hx114_0⟩ := Kd.at_string (Kd.R_reads' HO110.out).2.2 3 p114 q114
  obtain rfl : ad111 = ad114 := (by injection e114)
  (try simp only [show (3 : Int).toNat = 3 from rfl, Nat.reduceMul, Nat.reduceEqDiff, Go.Addr.add, ↓reduceIte] at hx114_0)
  have qi114 : (3 < y108.length) = True := eq_true (by omega)
  (try rw [show ((3 : Int)).toNat = 3 from rfl] at hx114_0)
  replace p114 := eq_true p114
  replace q114 := eq_true q114
  have p115 : 0 ≤ (4 : Int) := (by omega)
  have q115 := of_decide_eq_true c8b0
  obtain ⟨ad115, e115, hx115_0⟩ := Kd.at_string (Kd.R_reads' HO110.out).2.2 4 p115 q115
  obtain rfl : ad111 = ad115 := (by injection e115)
  (try simp only [show (4 : Int).toNat = 4 from rfl, Nat.reduceMul, Nat.reduceEqDiff, Go.Addr.add, ↓reduceIte] at hx115_0)
  have qi115 : (4 < y108.length) = True := eq_true (by omega)
  (try rw [show ((4 : Int)).toNat = 4 from rfl] at hx115_0)
  replace p115 := eq_true p115
  replace q115 := eq_true q115
  refine start_ (n := 18) (S := fun w' => w'.cell? ⟨ad111.block, ad111.off + 1, none⟩ = some (.string (rdOf ByteArray.empty y108 1)) ∧ w'.cell? ad111 = some (.string (rdOf ByteArray.empty y108 0)) ∧ w'.cell? ⟨ad111.block, ad111.off + 2, none⟩ = some (.string (rdOf ByteArray.empty y108 2)) ∧ w'.cell? ⟨ad111.block, ad111.off + 3, none⟩ = some (.string (rdOf ByteArray.empty y108 3)) ∧ w'.cell? ⟨ad111.block, ad111.off + 4, none⟩ = some (.string (rdOf ByteArray.empty y108 4))) (ds := []) _ (by kernel_rfl) rfl rfl ⟨hx111_0, hx112_0, hx113_0, hx114_0, hx115_0⟩ (fun hHeld => ?_); refine with_tabW impl_readAffix.tab2 impl_readAffix.bits2 (fun HT_ HW_ => ?_)
  generalize w13.drew = w15 at HO107 HO110 BK101 HB hx111_0 hx112_0 hx113_0 hx114_0 hx115_0 hHeld ⊢
  refine ord_ [.p 0 8, .p 1 9, .p 3 11, .p 4 12, .p 7 15, .p 8 16, .p 10 18, .p 11 19, .p 13 21, .p 14 22, .t 2 10, .t 5 13, .p 6 14, .t 9 17, .t 12 20, .t 15 23, .p 16 24] ?_
  repeat (first | (refine pu_ (v := ?_) (a' := ?_) HT_ rfl rfl (by kernel_rfl) (fun _ _ _ h => h) (by rfl) ?_ ?_ ?_; rotate_left 2; (intro w'; go_simp; with_reducible rfl); (simp only [Act.put, List.setIfInBounds_toArray, List.set_cons_zero, List.set_cons_succ, i64_w, i32_w]; rfl)) | (refine ta_ (v := ?_) (a' := ?_) HT_ HW_ rfl rfl (by kernel_rfl) (fun _ _ _ h => h) (by rfl) hHeld ?_ ?_ ?_; rotate_left 2; (rintro w' ⟨s0, s1, s2, s3, s4⟩; go_simp; with_reducible rfl); (simp only [Act.put, List.setIfInBounds_toArray, List.set_cons_zero, List.set_cons_succ, i64_w, i32_w]; rfl)))
  refine ord0 ?_
  refine on_ (i := 17) (N := none) HT_ rfl rfl (by kernel_rfl) (by decide) (fun K hK => ?_)
  have hs17 : w15.cell? ⟨gb101, 0, none⟩ = some (.string (⟨#[]⟩ : ByteArray)) := (blk_cell BK101.out 0).trans rfl
  have hfs17 := blk_frozen BK101.out 0
  have hs18 : w15.cell? ⟨gb101, 1, none⟩ = some (.bool false) := (blk_cell BK101.out 1).trans rfl
  have hfs18 := blk_frozen BK101.out 1
  have hs19 : w15.cell? ⟨gb101, 2, none⟩ = some (.string (⟨#[]⟩ : ByteArray)) := (blk_cell BK101.out 2).trans rfl
  have hfs19 := blk_frozen BK101.out 2
  have hs20 : w15.cell? ⟨gb101, 3, none⟩ = some (.string (⟨#[]⟩ : ByteArray)) := (blk_cell BK101.out 3).trans rfl
  have hfs20 := blk_frozen BK101.out 3
  have hs21 : w15.cell? ⟨gb101, 4, none⟩ = some (.string (⟨#[]⟩ : ByteArray)) := (blk_cell BK101.out 4).trans rfl
  have hfs21 := blk_frozen BK101.out 4
  refine skip_ (w1 := ?_) (by rfl) rfl ?_ ?_
  rotate_left
  · go_simp
    rfl
  refine hK.out _ _ ⟨((cell_far (p := ⟨gb101, _, none⟩) (by first | exact Kd.own_blk (Kd.R_ne HO110.out BK101.out (by decide)) | (rw [add_block]; exact Kd.own_blk (Kd.R_ne HO110.out BK101.out (by decide))) | (show (Addr.add _ _).block ≠ _; rw [add_block]; exact Kd.own_blk (Kd.R_ne HO110.out BK101.out (by decide))) | (dsimp only; exact Kd.own_blk (Kd.R_ne HO110.out BK101.out (by decide)))) _).trans (((cell_far (p := ⟨gb101, _, none⟩) (by first | exact Kd.own_blk (Kd.R_ne HO110.out BK101.out (by decide)) | (rw [add_block]; exact Kd.own_blk (Kd.R_ne HO110.out BK101.out (by decide))) | (show (Addr.add _ _).block ≠ _; rw [add_block]; exact Kd.own_blk (Kd.R_ne HO110.out BK101.out (by decide))) | (dsimp only; exact Kd.own_blk (Kd.R_ne HO110.out BK101.out (by decide)))) _).trans (((cell_far (p := ⟨gb101, _, none⟩) (by first | exact Kd.own_blk (Kd.R_ne HO110.out BK101.out (by decide)) | (rw [add_block]; exact Kd.own_blk (Kd.R_ne HO110.out BK101.out (by decide))) | (show (Addr.add _ _).block ≠ _; rw [add_block]; exact Kd.own_blk (Kd.R_ne HO110.out BK101.out (by decide))) | (dsimp only; exact Kd.own_blk (Kd.R_ne HO110.out BK101.out (by decide)))) _).trans (((cell_far (p := ⟨gb101, _, none⟩) (by first | exact Kd.own_blk (Kd.R_ne HO110.out BK101.out (by decide)) | (rw [add_block]; exact Kd.own_blk (Kd.R_ne HO110.out BK101.out (by decide))) | (show (Addr.add _ _).block ≠ _; rw [add_block]; exact Kd.own_blk (Kd.R_ne HO110.out BK101.out (by decide))) | (dsimp only; exact Kd.own_blk (Kd.R_ne HO110.out BK101.out (by decide)))) _).trans (((cell_far (p := ⟨gb101, _, none⟩) (by first | exact Kd.own_blk (Kd.R_ne HO110.out BK101.out (by decide)) | (rw [add_block]; exact Kd.own_blk (Kd.R_ne HO110.out BK101.out (by decide))) | (show (Addr.add _ _).block ≠ _; rw [add_block]; exact Kd.own_blk (Kd.R_ne HO110.out BK101.out (by decide))) | (dsimp only; exact Kd.own_blk (Kd.R_ne HO110.out BK101.out (by decide)))) _).trans (hHeld.1)))))))))), ((cell_far (p := ⟨gb101, _, none⟩) (by first | exact Kd.own_blk (Kd.R_ne HO110.out BK101.out (by decide)) | (rw [add_block]; exact Kd.own_blk (Kd.R_ne HO110.out BK101.out (by decide))) | (show (Addr.add _ _).block ≠ _; rw [add_block]; exact Kd.own_blk (Kd.R_ne HO110.out BK101.out (by decide))) | (dsimp only; exact Kd.own_blk (Kd.R_ne HO110.out BK101.out (by decide)))) _).trans (((cell_far (p := ⟨gb101, _, none⟩) (by first | exact Kd.own_blk (Kd.R_ne HO110.out BK101.out (by decide)) | (rw [add_block]; exact Kd.own_blk (Kd.R_ne HO110.out BK101.out (by decide))) | (show (Addr.add _ _).block ≠ _; rw [add_block]; exact Kd.own_blk (Kd.R_ne HO110.out BK101.out (by decide))) | (dsimp only; exact Kd.own_blk (Kd.R_ne HO110.out BK101.out (by decide)))) _).trans (((cell_far (p := ⟨gb101, _, none⟩) (by first | exact Kd.own_blk (Kd.R_ne HO110.out BK101.out (by decide)) | (rw [add_block]; exact Kd.own_blk (Kd.R_ne HO110.out BK101.out (by decide))) | (show (Addr.add _ _).block ≠ _; rw [add_block]; exact Kd.own_blk (Kd.R_ne HO110.out BK101.out (by decide))) | (dsimp only; exact Kd.own_blk (Kd.R_ne HO110.out BK101.out (by decide)))) _).trans (((cell_far (p := ⟨gb101, _, none⟩) (by first | exact Kd.own_blk (Kd.R_ne HO110.out BK101.out (by decide)) | (rw [add_block]; exact Kd.own_blk (Kd.R_ne HO110.out BK101.out (by decide))) | (show (Addr.add _ _).block ≠ _; rw [add_block]; exact Kd.own_blk (Kd.R_ne HO110.out BK101.out (by decide))) | (dsimp only; exact Kd.own_blk (Kd.R_ne HO110.out BK101.out (by decide)))) _).trans (((cell_far (p := ⟨gb101, _, none⟩) (by first | exact Kd.own_blk (Kd.R_ne HO110.out BK101.out (by decide)) | (rw [add_block]; exact Kd.own_blk (Kd.R_ne HO110.out BK101.out (by decide))) | (show (Addr.add _ _).block ≠ _; rw [add_block]; exact Kd.own_blk (Kd.R_ne HO110.out BK101.out (by decide))) | (dsimp only; exact Kd.own_blk (Kd.R_ne HO110.out BK101.out (by decide)))) _).trans (hHeld.2.1)))))))))), ((cell_far (p := ⟨gb101, _, none⟩) (by first | exact Kd.own_blk (Kd.R_ne HO110.out BK101.out (by decide)) | (rw [add_block]; exact Kd.own_blk (Kd.R_ne HO110.out BK101.out (by decide))) | (show (Addr.add _ _).block ≠ _; rw [add_block]; exact Kd.own_blk (Kd.R_ne HO110.out BK101.out (by decide))) | (dsimp only; exact Kd.own_blk (Kd.R_ne HO110.out BK101.out (by decide)))) _).trans (((cell_far (p := ⟨gb101, _, none⟩) (by first | exact Kd.own_blk (Kd.R_ne HO110.out BK101.out (by decide)) | (rw [add_block]; exact Kd.own_blk (Kd.R_ne HO110.out BK101.out (by decide))) | (show (Addr.add _ _).block ≠ _; rw [add_block]; exact Kd.own_blk (Kd.R_ne HO110.out BK101.out (by decide))) | (dsimp only; exact Kd.own_blk (Kd.R_ne HO110.out BK101.out (by decide)))) _).trans (((cell_far (p := ⟨gb101, _, none⟩) (by first | exact Kd.own_blk (Kd.R_ne HO110.out BK101.out (by decide)) | (rw [add_block]; exact Kd.own_blk (Kd.R_ne HO110.out BK101.out (by decide))) | (show (Addr.add _ _).block ≠ _; rw [add_block]; exact Kd.own_blk (Kd.R_ne HO110.out BK101.out (by decide))) | (dsimp only; exact Kd.own_blk (Kd.R_ne HO110.out BK101.out (by decide)))) _).trans (((cell_far (p := ⟨gb101, _, none⟩) (by first | exact Kd.own_blk (Kd.R_ne HO110.out BK101.out (by decide)) | (rw [add_block]; exact Kd.own_blk (Kd.R_ne HO110.out BK101.out (by decide))) | (show (Addr.add _ _).block ≠ _; rw [add_block]; exact Kd.own_blk (Kd.R_ne HO110.out BK101.out (by decide))) | (dsimp only; exact Kd.own_blk (Kd.R_ne HO110.out BK101.out (by decide)))) _).trans (((cell_far (p := ⟨gb101, _, none⟩) (by first | exact Kd.own_blk (Kd.R_ne HO110.out BK101.out (by decide)) | (rw [add_block]; exact Kd.own_blk (Kd.R_ne HO110.out BK101.out (by decide))) | (show (Addr.add _ _).block ≠ _; rw [add_block]; exact Kd.own_blk (Kd.R_ne HO110.out BK101.out (by decide))) | (dsimp only; exact Kd.own_blk (Kd.R_ne HO110.out BK101.out (by decide)))) _).trans (hHeld.2.2.1)))))))))), ((cell_far (p := ⟨gb101, _, none⟩) (by first | exact Kd.own_blk (Kd.R_ne HO110.out BK101.out (by decide)) | (rw [add_block]; exact Kd.own_blk (Kd.R_ne HO110.out BK101.out (by decide))) | (show (Addr.add _ _).block ≠ _; rw [add_block]; exact Kd.own_blk (Kd.R_ne HO110.out BK101.out (by decide))) | (dsimp only; exact Kd.own_blk (Kd.R_ne HO110.out BK101.out (by decide)))) _).trans (((cell_far (p := ⟨gb101, _, none⟩) (by first | exact Kd.own_blk (Kd.R_ne HO110.out BK101.out (by decide)) | (rw [add_block]; exact Kd.own_blk (Kd.R_ne HO110.out BK101.out (by decide))) | (show (Addr.add _ _).block ≠ _; rw [add_block]; exact Kd.own_blk (Kd.R_ne HO110.out BK101.out (by decide))) | (dsimp only; exact Kd.own_blk (Kd.R_ne HO110.out BK101.out (by decide)))) _).trans (((cell_far (p := ⟨gb101, _, none⟩) (by first | exact Kd.own_blk (Kd.R_ne HO110.out BK101.out (by decide)) | (rw [add_block]; exact Kd.own_blk (Kd.R_ne HO110.out BK101.out (by decide))) | (show (Addr.add _ _).block ≠ _; rw [add_block]; exact Kd.own_blk (Kd.R_ne HO110.out BK101.out (by decide))) | (dsimp only; exact Kd.own_blk (Kd.R_ne HO110.out BK101.out (by decide)))) _).trans (((cell_far (p := ⟨gb101, _, none⟩) (by first | exact Kd.own_blk (Kd.R_ne HO110.out BK101.out (by decide)) | (rw [add_block]; exact Kd.own_blk (Kd.R_ne HO110.out BK101.out (by decide))) | (show (Addr.add _ _).block ≠ _; rw [add_block]; exact Kd.own_blk (Kd.R_ne HO110.out BK101.out (by decide))) | (dsimp only; exact Kd.own_blk (Kd.R_ne HO110.out BK101.out (by decide)))) _).trans (((cell_far (p := ⟨gb101, _, none⟩) (by first | exact Kd.own_blk (Kd.R_ne HO110.out BK101.out (by decide)) | (rw [add_block]; exact Kd.own_blk (Kd.R_ne HO110.out BK101.out (by decide))) | (show (Addr.add _ _).block ≠ _; rw [add_block]; exact Kd.own_blk (Kd.R_ne HO110.out BK101.out (by decide))) | (dsimp only; exact Kd.own_blk (Kd.R_ne HO110.out BK101.out (by decide)))) _).trans (hHeld.2.2.2.1)))))))))), ((cell_far (p := ⟨gb101, _, none⟩) (by first | exact Kd.own_blk (Kd.R_ne HO110.out BK101.out (by decide)) | (rw [add_block]; exact Kd.own_blk (Kd.R_ne HO110.out BK101.out (by decide))) | (show (Addr.add _ _).block ≠ _; rw [add_block]; exact Kd.own_blk (Kd.R_ne HO110.out BK101.out (by decide))) | (dsimp only; exact Kd.own_blk (Kd.R_ne HO110.out BK101.out (by decide)))) _).trans (((cell_far (p := ⟨gb101, _, none⟩) (by first | exact Kd.own_blk (Kd.R_ne HO110.out BK101.out (by decide)) | (rw [add_block]; exact Kd.own_blk (Kd.R_ne HO110.out BK101.out (by decide))) | (show (Addr.add _ _).block ≠ _; rw [add_block]; exact Kd.own_blk (Kd.R_ne HO110.out BK101.out (by decide))) | (dsimp only; exact Kd.own_blk (Kd.R_ne HO110.out BK101.out (by decide)))) _).trans (((cell_far (p := ⟨gb101, _, none⟩) (by first | exact Kd.own_blk (Kd.R_ne HO110.out BK101.out (by decide)) | (rw [add_block]; exact Kd.own_blk (Kd.R_ne HO110.out BK101.out (by decide))) | (show (Addr.add _ _).block ≠ _; rw [add_block]; exact Kd.own_blk (Kd.R_ne HO110.out BK101.out (by decide))) | (dsimp only; exact Kd.own_blk (Kd.R_ne HO110.out BK101.out (by decide)))) _).trans (((cell_far (p := ⟨gb101, _, none⟩) (by first | exact Kd.own_blk (Kd.R_ne HO110.out BK101.out (by decide)) | (rw [add_block]; exact Kd.own_blk (Kd.R_ne HO110.out BK101.out (by decide))) | (show (Addr.add _ _).block ≠ _; rw [add_block]; exact Kd.own_blk (Kd.R_ne HO110.out BK101.out (by decide))) | (dsimp only; exact Kd.own_blk (Kd.R_ne HO110.out BK101.out (by decide)))) _).trans (((cell_far (p := ⟨gb101, _, none⟩) (by first | exact Kd.own_blk (Kd.R_ne HO110.out BK101.out (by decide)) | (rw [add_block]; exact Kd.own_blk (Kd.R_ne HO110.out BK101.out (by decide))) | (show (Addr.add _ _).block ≠ _; rw [add_block]; exact Kd.own_blk (Kd.R_ne HO110.out BK101.out (by decide))) | (dsimp only; exact Kd.own_blk (Kd.R_ne HO110.out BK101.out (by decide)))) _).trans (hHeld.2.2.2.2))))))))))⟩ (fun hHeld => ?_)
  clear hK K
  refine done_ (done_of HT_.out (by kernel_rfl)) ?_
  try go_wp2
  refine bodyPost_ret (results_cell_row rfl _ _ gb101 46 #[.string (rdOf ByteArray.empty y108 1), .bool ((rdOf ByteArray.empty y108 0).toList == ([102, 114, 111, 110, 116] : List UInt8)), .string (rdOf ByteArray.empty y108 2), .string (rdOf ByteArray.empty y108 3), .string (rdOf ByteArray.empty y108 4)] (0, 0) _ rfl (cl BK101.out rfl) Tryd.underlying46 rfl (by kernel_rfl)) rfl ?_
  exact ⟨by rfl, bx HB.out⟩
end Go.Proofs.YtabindnaedchgaaDoor.M
end

section
-- Printed for this claim by a program (mprint.py) that uses the kit's print; Lean checks it.
namespace Go.Proofs.YtabindnaedchgaaDoor.M
open Go.RowKit Go.Proofs.YtabindnaedchgaaDoorW.PrintWords Go.Proofs.YtabindnaedchgaaDoorW.PrintLast Go.Proofs.YtabindnaedchgaaDoorW.PrintMore Go.Proofs.YtabindnaedchgaaDoor.Sq
set_option synthInstance.maxHeartbeats 2000000
set_option synthInstance.maxSize 4096
attribute [local go_sem] max2_int min2_int max_two min_two max_three min_three max_four min_four   -- for this text's walks alone
set_option linter.unusedVariables false
set_option linter.unusedSimpArgs false
theorem gf50 : Go_ Tryd.prog 50 Tryd.f50 := ⟨Tryd.func50, by kernel_rfl, rfl⟩
def strings_Cut.f (a0 : ByteArray) (a1 : ByteArray) : Option (ByteArray × ByteArray × Bool) := if a0.size < 4294967281 then (some ((⟨(Lib.cut a0.data.toList a1.data.toList).1.toArray⟩ : ByteArray), (⟨(Lib.cut a0.data.toList a1.data.toList).2.1.toArray⟩ : ByteArray), (Lib.cut a0.data.toList a1.data.toList).2.2)) else (none)
theorem strings_Cut.calls (a0 : ByteArray) (a1 : ByteArray) (r1 : ByteArray) (r2 : ByteArray) (r3 : Bool) (w : World) (hGm : GWm w) (h : strings_Cut.f a0 a1 = some (r1, r2, r3)) :
    Calls Tryd.prog 50 #[.string a0, .string a1] w fun e w' => e = .returned (.tuple #[.string r1, .string r2, .bool r3]) ∧ Below w.heap.size w w' := by
  unfold strings_Cut.f at h
  by_cases h0 : a0.size < 4294967281
  · rw [if_pos h0] at h
    simp only [Option.some.injEq, Prod.mk.injEq] at h
    obtain ⟨rfl, rfl, rfl⟩ := h
    obtain ⟨m, hm⟩ := hGm.out
    refine (Go.Proofs.Tryd.strings_Cut a0 a1 m w h0 hm).mono ?_
    rintro e w' ⟨rfl, q, rfl⟩
    exact ⟨rfl, pw_below_drewN (Below.refl _ _) _⟩
  · rw [if_neg h0] at h
    cases h
end Go.Proofs.YtabindnaedchgaaDoor.M
end

section
-- Printed for this claim by a program (mprint.py) that uses the kit's print; Lean checks it.
namespace Go.Proofs.YtabindnaedchgaaDoor.M
open Go.RowKit Go.Proofs.YtabindnaedchgaaDoorW.PrintWords Go.Proofs.YtabindnaedchgaaDoorW.PrintLast Go.Proofs.YtabindnaedchgaaDoorW.PrintMore Go.Proofs.YtabindnaedchgaaDoor.Sq
set_option synthInstance.maxHeartbeats 2000000
set_option synthInstance.maxSize 4096
attribute [local go_sem] max2_int min2_int max_two min_two max_three min_three max_four min_four   -- for this text's walks alone
set_option linter.unusedVariables false
set_option linter.unusedSimpArgs false
theorem gf21 : Go_ Tryd.prog 21 Tryd.f21 := ⟨Tryd.func21, by kernel_rfl, rfl⟩
def impl_readEntry.f (a0 : ByteArray) : Option (ByteArray × ByteArray) := (strings_Cut.f a0 (⟨#[47]⟩ : ByteArray)).bind fun bt102 => (some (bt102.1, bt102.2.1))
set_option maxHeartbeats 8000000 in
set_option maxRecDepth 100000 in
theorem impl_readEntry.calls (a0 : ByteArray) (r1 : ByteArray) (r2 : ByteArray) (w : World) (hGm : GWm w) (h : impl_readEntry.f a0 = some (r1, r2)) :
    Calls Tryd.prog 21 #[.string a0] w fun e w' => e = .returned (.agg #[.string r1, .string r2]) ∧ Below w.heap.size w w' := by
  have hu43 := Tryd.underlying43
  have HGWm := Aside0.mk hGm
  clear hGm
  have HB := Aside0.mk (Below.refl w.heap.size w)
  unfold impl_readEntry.f at h
  have H := h
  clear h
  replace H := Option.bind_eq_some_iff.mp H
  obtain ⟨⟨t102, t103, t104⟩, A20, H⟩ := H
  replace H : (some (t102, t103)) = some (r1, r2) := H
  have A2 := Aside0.mk A20
  clear A20
  simp only [Option.some.injEq, Prod.mk.injEq] at H
  obtain ⟨rfl, rfl⟩ := H
  go_enter Tryd.func21, Tryd.ntmps21
  go_wp2_with (first | ((with_reducible refine gate_dst (N := 2) rfl ?_); refine box_event rfl (N := 2) rfl (cs := #[.string (⟨#[]⟩ : ByteArray), .string (⟨#[]⟩ : ByteArray)]) (t := 43) (by go_simp <;> rfl) ?_; intro gb101 hg w3 hbox hb; have BK101 := Aside0.mk (hbox); have GW101 := Le_.mk (ge_of hg HB.out); have GE101 := Le_.mk (ge_of hg HB.out); replace HB := kB HB hb; clear hb hbox hg) | ((with_reducible refine gate_callee (f := 50) rfl ?_); refine goL (some 8) rfl rfl gf50 #[.string a0, .string (⟨#[47]⟩ : ByteArray)] rfl rfl ?_; (with_reducible refine (strings_Cut.calls a0 (⟨#[47]⟩ : ByteArray) t102 t103 t104 _ (GWm.below HGWm.out (bx HB.out)) A2.out).mono ?_); rintro e w4 ⟨rfl, hb⟩; refine ⟨_, rfl, ?_⟩; replace BK101 := kb BK101 hb; replace HB := kB HB hb; (try clear hb); (try clear hb2); (try clear hk); (try clear hi); have hz5 := cells_2 BK101.out))
  refine bodyPost_ret (results_cell_row rfl _ _ gb101 43 #[.string t102, .string t103] (0, 0) _ rfl (cl BK101.out rfl) Tryd.underlying43 rfl (by kernel_rfl)) rfl ?_
  exact ⟨by rfl, bx HB.out⟩
end Go.Proofs.YtabindnaedchgaaDoor.M
end

section
-- Printed for this claim by a program (mprint.py) that uses the kit's print; Lean checks it.
namespace Go.Proofs.YtabindnaedchgaaDoor.M
open Go.RowKit Go.Proofs.YtabindnaedchgaaDoorW.PrintWords Go.Proofs.YtabindnaedchgaaDoorW.PrintLast Go.Proofs.YtabindnaedchgaaDoorW.PrintMore Go.Proofs.YtabindnaedchgaaDoor.Sq
set_option synthInstance.maxHeartbeats 2000000
set_option synthInstance.maxSize 4096
attribute [local go_sem] max2_int min2_int max_two min_two max_three min_three max_four min_four   -- for this text's walks alone
set_option linter.unusedVariables false
set_option linter.unusedSimpArgs false
theorem gf6 : Go_ Tryd.prog 6 Tryd.f6 := ⟨Tryd.func6, by kernel_rfl, rfl⟩
def impl_DeltaGet.l0 : Nat → ByteArray → List ByteArray → Int → Int → List ByteArray → List (S43) → Bool → List (S46) → Option (List ByteArray × (List (S43)) × Bool × (List (S46)) × Bool)
  | 0, _, _, _, _, _, _, _, _ => none
  | k + 1, x0, x12, x13, x14, x112000, x112001, x112002, x112003 => if x14 < x13 then (if 0 ≤ x14 then (if x14 < (x12.length : Int) then (if (rdOf ByteArray.empty x12 x14).toList = ([97, 102, 102, 105, 120, 101, 115] : List UInt8) then (impl_DeltaGet.l0 k x0 x12 x13 (wrap64 (x14 + 1)) x112000 x112001 true x112003) else ((strings_HasPrefix.f (rdOf ByteArray.empty x12 x14) (⟨#[45]⟩ : ByteArray)).bind fun t116 => (if t116 = true then (if 1 ≤ ((rdOf ByteArray.empty x12 x14).size : Int) then (if x112000.length < 8796093022208 then (impl_DeltaGet.l0 k x0 x12 x13 (wrap64 (x14 + 1)) (x112000 ++ [(rdOf ByteArray.empty x12 x14).extract 1 (rdOf ByteArray.empty x12 x14).size]) x112001 x112002 x112003) else (none)) else (none)) else ((strings_HasPrefix.f (rdOf ByteArray.empty x12 x14) (⟨#[43]⟩ : ByteArray)).bind fun t120 => (if t120 = true then (if 1 ≤ ((rdOf ByteArray.empty x12 x14).size : Int) then ((impl_readEntry.f ((rdOf ByteArray.empty x12 x14).extract 1 (rdOf ByteArray.empty x12 x14).size)).bind fun bt121 => (if x112001.length < 4398046511104 then (impl_DeltaGet.l0 k x0 x12 x13 (wrap64 (x14 + 1)) x112000 (x112001 ++ [(⟨bt121.1, bt121.2⟩ : S43)]) x112002 x112003) else (none))) else (none)) else ((impl_readAffix.f (rdOf ByteArray.empty x12 x14)).bind fun bt126 => (if x112003.length < 1954687338268 then (impl_DeltaGet.l0 k x0 x12 x13 (wrap64 (x14 + 1)) x112000 x112001 x112002 (x112003 ++ [(⟨bt126.1, bt126.2.1, bt126.2.2.1, bt126.2.2.2.1, bt126.2.2.2.2⟩ : S46)])) else (none)))))))) else (none)) else (none)) else ((impl_DeltaOk.f k x112000 x112001 x112002 x112003).bind fun t134 => (if t134 = true then ((impl_DeltaPut.f k x112000 x112001 x112002 x112003).bind fun t135 => (if t135.toList = x0.toList then (some (x112000, x112001, x112002, x112003, true)) else (some (([] : List ByteArray), ([] : List (S43)), false, ([] : List (S46)), false)))) else (some (([] : List ByteArray), ([] : List (S43)), false, ([] : List (S46)), false))))
def impl_DeltaGet.f (k : Nat) (a0 : ByteArray) : Option (List ByteArray × (List (S43)) × Bool × (List (S46)) × Bool) := (impl_linesOf.f a0).bind fun t112 => (impl_DeltaGet.l0 k a0 t112 (t112.length : Int) 0 (([] : List ByteArray)) (([] : List (S43))) false (([] : List (S46))))
theorem impl_DeltaGet.mono_l : ∀ k, (∀ y0 y1 y2 y3 y4 y5 y6 y7, LeO (impl_DeltaGet.l0 k y0 y1 y2 y3 y4 y5 y6 y7) (impl_DeltaGet.l0 (k + 1) y0 y1 y2 y3 y4 y5 y6 y7))
  | 0 => fun _ _ _ _ _ _ _ _ r h => by simp [impl_DeltaGet.l0] at h
  | k + 1 => by
    have ih0 := impl_DeltaGet.mono_l k
    · intro y0 y1 y2 y3 y4 y5 y6 y7
      unfold impl_DeltaGet.l0
      have I0_ := fun x0_ x1_ x2_ x3_ x4_ x5_ x6_ x7_ => LeC.mk (ih0 x0_ x1_ x2_ x3_ x4_ x5_ x6_ x7_)
      have I1_ := fun x0_ x1_ x2_ x3_ x4_ => LeC.mk (impl_DeltaOk.mono x0_ x1_ x2_ x3_ x4_)
      have I2_ := fun x0_ x1_ x2_ x3_ x4_ => LeC.mk (impl_DeltaPut.mono x0_ x1_ x2_ x3_ x4_)
      exact LeC.out
theorem impl_DeltaGet.mono : ∀ a0 k, LeO (impl_DeltaGet.f k a0) (impl_DeltaGet.f (k + 1) a0) := by
  intro a0 k
  have ih0 := impl_DeltaGet.mono_l k
  unfold impl_DeltaGet.f
  have I0_ := fun x0_ x1_ x2_ x3_ x4_ x5_ x6_ x7_ => LeC.mk (ih0 x0_ x1_ x2_ x3_ x4_ x5_ x6_ x7_)
  have I1_ := fun x0_ x1_ x2_ x3_ x4_ => LeC.mk (impl_DeltaOk.mono x0_ x1_ x2_ x3_ x4_)
  have I2_ := fun x0_ x1_ x2_ x3_ x4_ => LeC.mk (impl_DeltaPut.mono x0_ x1_ x2_ x3_ x4_)
  exact LeC.out
def impl_DeltaGet.T5 : Bool × List (List Nat × List Nat) := (true, [([], []), ([0], [0]), ([], []), ([2], [2]), ([3], [3]), ([1, 4, 3], [1, 4]), ([0, 1, 2, 3, 4, 5], []), ([6, 5, 5, 0, 1, 2, 3, 4, 5], [5, 6])])
def impl_DeltaGet.B5 : List Nat := [0, 1, 0, 4, 12, 31, 63, 127]
theorem impl_DeltaGet.tab5 : rtab .any (opsOf Tryd.f6 5) = impl_DeltaGet.T5 := by kernel_rfl
theorem impl_DeltaGet.bits5 : waitsOk impl_DeltaGet.T5.2 impl_DeltaGet.B5 = true := by kernel_rfl
def impl_DeltaGet.T9 : Bool × List (List Nat × List Nat) := (true, [([], []), ([0], [0]), ([], []), ([2], [2]), ([3], [3]), ([1, 4], [1, 4]), ([0, 1, 2, 3, 4, 5], []), ([6, 5, 5, 0, 1, 2, 3, 4, 5], [5, 6])])
def impl_DeltaGet.B9 : List Nat := [0, 1, 0, 4, 12, 31, 63, 127]
theorem impl_DeltaGet.tab9 : rtab .any (opsOf Tryd.f6 9) = impl_DeltaGet.T9 := by kernel_rfl
theorem impl_DeltaGet.bits9 : waitsOk impl_DeltaGet.T9.2 impl_DeltaGet.B9 = true := by kernel_rfl
def impl_DeltaGet.T11 : Bool × List (List Nat × List Nat) := (true, [([], []), ([0], [0]), ([], []), ([2], [2]), ([3], [3]), ([4], [4]), ([1, 5, 4], [1, 5]), ([0, 1, 2, 3, 4, 5, 6], []), ([7, 6, 6, 0, 1, 2, 3, 4, 5, 6], [6, 7])])
def impl_DeltaGet.B11 : List Nat := [0, 1, 0, 4, 12, 28, 63, 127, 255]
theorem impl_DeltaGet.tab11 : rtab .any (opsOf Tryd.f6 11) = impl_DeltaGet.T11 := by kernel_rfl
theorem impl_DeltaGet.bits11 : waitsOk impl_DeltaGet.T11.2 impl_DeltaGet.B11 = true := by kernel_rfl
set_option maxHeartbeats 8000000 in
set_option maxRecDepth 100000 in
theorem impl_DeltaGet.calls (k : Nat) (a0 : ByteArray) (r1 : List ByteArray) (r2 : List (S43)) (r3 : Bool) (r4 : List (S46)) (r5 : Bool) (w : World) (hGm : GWm w) (h : impl_DeltaGet.f k a0 = some (r1, r2, r3, r4, r5)) :
    Calls Tryd.prog 6 #[.string a0] w fun e w' => ∃ v0_ v1_ v3_ : Value, e = .returned (.tuple #[.agg #[v0_, v1_, .bool r3, v3_], .bool r5]) ∧ Kd.R Kd.string 9 w' w.heap.size (fun _ => True) v0_ r1 ∧ Kd.R k43 43 w' w.heap.size (fun _ => True) v1_ r2 ∧ Kd.R k46 46 w' w.heap.size (fun _ => True) v3_ r4 ∧ Below w.heap.size w w' := by
  have hu26 := Tryd.underlying26
  have HGWm := Aside0.mk hGm
  clear hGm
  have HB := Aside0.mk (Below.refl w.heap.size w)
  unfold impl_DeltaGet.f at h
  have H := h
  clear h
  obtain ⟨y102, hy102⟩ : ∃ y_ : List ByteArray, y_ = (([] : List ByteArray)) := ⟨_, rfl⟩
  replace H : ((impl_linesOf.f a0).bind fun t112 => (impl_DeltaGet.l0 k a0 t112 (t112.length : Int) 0 y102 (([] : List (S43))) false (([] : List (S46))))) = some (r1, r2, r3, r4, r5) := by first | (rw [hy102]; with_reducible exact H) | (have H2_ := (Option.bind_some _ _).symm.trans H; rw [hy102]; with_reducible exact H2_) | (have H2_ := (Option.bind_some _ _).symm.trans H; with_reducible exact H2_) | with_reducible exact H | (rw [hy102]; exact H) | exact H
  have Ny102 := Aside0.mk hy102
  clear hy102
  obtain ⟨y105, hy105⟩ : ∃ y_ : List (S43), y_ = (([] : List (S43))) := ⟨_, rfl⟩
  replace H : ((impl_linesOf.f a0).bind fun t112 => (impl_DeltaGet.l0 k a0 t112 (t112.length : Int) 0 y102 y105 false (([] : List (S46))))) = some (r1, r2, r3, r4, r5) := by first | (rw [hy105]; with_reducible exact H) | (have H2_ := (Option.bind_some _ _).symm.trans H; rw [hy105]; with_reducible exact H2_) | (have H2_ := (Option.bind_some _ _).symm.trans H; with_reducible exact H2_) | with_reducible exact H | (rw [hy105]; exact H) | exact H
  have Ny105 := Aside0.mk hy105
  clear hy105
  obtain ⟨y108, hy108⟩ : ∃ y_ : List (S46), y_ = (([] : List (S46))) := ⟨_, rfl⟩
  replace H : ((impl_linesOf.f a0).bind fun t112 => (impl_DeltaGet.l0 k a0 t112 (t112.length : Int) 0 y102 y105 false y108)) = some (r1, r2, r3, r4, r5) := by first | (rw [hy108]; with_reducible exact H) | (have H2_ := (Option.bind_some _ _).symm.trans H; rw [hy108]; with_reducible exact H2_) | (have H2_ := (Option.bind_some _ _).symm.trans H; with_reducible exact H2_) | with_reducible exact H | (rw [hy108]; exact H) | exact H
  have Ny108 := Aside0.mk hy108
  clear hy108
  replace H := Option.bind_eq_some_iff.mp H
  obtain ⟨t112, A20, H⟩ := H
  have A2 := Aside0.mk A20
  clear A20
  have H' := Aside0.mk H
  clear H
  go_enter Tryd.func6, Tryd.ntmps6
  go_wp2_with (first | ((with_reducible refine gate_dst (N := 2) rfl ?_); refine box_event rfl (N := 2) rfl (cs := #[.slice none 0 0, .slice none 0 0, .bool false, .slice none 0 0]) (t := 26) (by go_simp <;> rfl) ?_; intro gb101 hg w3 hbox hb; have BK101 := Aside0.mk (hbox); have GW101 := Le_.mk (ge_of hg HB.out); have GE101 := Le_.mk (ge_of hg HB.out); replace HB := kB HB hb; clear hb hbox hg) | ((with_reducible refine gate_dst (N := 7) rfl ?_); refine Kd.R_lit Kd.string _ 9 ?hg (N := 7) ?hd (xs := ([] : List ByteArray)) (inner := []) (ok := fun _ => True) (okp := fun _ => True) ?hr ?hp (fun _ hk => hk) trivial (Below.refl _ _) (Nat.le_refl _) (by simp) ?_; (case hd => rfl); (case hg => rfl); (case hr => first | (go_simp; done) | (go_simp; rfl)); (case hp => exact (Reps.none _ _)); intro v103 w4 ho5 hb hg_ hnew_; clear hg_ hnew_; (first | rw [← Ny102.out] at ho5 | (simp only [Int.reduceToNat] at ho5; rw [← Ny102.out] at ho5)); have HO104 := Aside0.mk (Kd.R_lower ho5 (bz HB.out)); replace BK101 := kb BK101 hb; replace HB := kB HB hb; clear hb ho5) | ((with_reducible refine gate_dst (N := 8) rfl ?_); refine Kd.R_lit k43 _ 43 ?hg (N := 8) ?hd (xs := ([] : List (S43))) (inner := []) (ok := fun _ => True) (okp := fun _ => True) ?hr ?hp (fun _ hk => hk) trivial (Below.refl _ _) (Nat.le_refl _) (by simp) ?_; (case hd => rfl); (case hg => rfl); (case hr => first | (go_simp; done) | (go_simp; rfl)); (case hp => exact (Reps.none _ _)); intro v106 w6 ho7 hb hg_ hnew_; clear hg_ hnew_; (first | rw [← Ny105.out] at ho7 | (simp only [Int.reduceToNat] at ho7; rw [← Ny105.out] at ho7)); replace HO104 := kR HO104 hb; have HO107 := Aside0.mk (Kd.R_lower ho7 (bz HB.out)); replace BK101 := kb BK101 hb; replace HB := kB HB hb; clear hb ho7) | ((with_reducible refine gate_dst (N := 9) rfl ?_); refine Kd.R_lit k46 _ 46 ?hg (N := 9) ?hd (xs := ([] : List (S46))) (inner := []) (ok := fun _ => True) (okp := fun _ => True) ?hr ?hp (fun _ hk => hk) trivial (Below.refl _ _) (Nat.le_refl _) (by simp) ?_; (case hd => rfl); (case hg => rfl); (case hr => first | (go_simp; done) | (go_simp; rfl)); (case hp => exact (Reps.none _ _)); intro v109 w8 ho9 hb hg_ hnew_; clear hg_ hnew_; (first | rw [← Ny108.out] at ho9 | (simp only [Int.reduceToNat] at ho9; rw [← Ny108.out] at ho9)); replace HO104 := kR HO104 hb; replace HO107 := kR HO107 hb; have HO110 := Aside0.mk (Kd.R_lower ho9 (bz HB.out)); replace BK101 := kb BK101 hb; replace HB := kB HB hb; clear hb ho9; obtain ⟨Ao10, co10, eo10⟩ := Kd.R_slice HO110.out; subst eo10; obtain ⟨Ao11, co11, eo11⟩ := Kd.R_slice HO107.out; subst eo11; obtain ⟨Ao12, co12, eo12⟩ := Kd.R_slice HO104.out; subst eo12) | ((with_reducible refine gate_dst (N := 4) rfl ?_); refine box_event rfl (N := 4) rfl (cs := #[.slice none 0 0, .slice none 0 0, .bool false, .slice none 0 0]) (t := 26) (by go_simp <;> rfl) ?_; intro gb111 hg w13 hbox hb; replace HO104 := kR HO104 hb; replace HO107 := kR HO107 hb; replace HO110 := kR HO110 hb; have BK111 := Aside0.mk (hbox); have GW111 := Le_.mk (ge_of hg HB.out); have GE111 := Le_.mk (ge_of hg HB.out); replace HB := kB HB hb; have NB101_111 := Ne_.mk ((by rw [hg]; exact Nat.ne_of_lt (blk_lt (gx (BK101.out))) : gb101 ≠ gb111)); have NB111_101 := Ne_.mk ((by rw [hg]; exact Nat.ne_of_gt (blk_lt (gx (BK101.out))) : gb111 ≠ gb101)); replace BK101 := kb BK101 hb; clear hb hbox hg; have hnb14 := NB111_101.out; have hnc14 := NB101_111.out; have hz15 := cells_4 BK111.out) | ((with_reducible refine gate_callee (f := 19) rfl ?_); refine goL (some 12) rfl rfl gf19 #[.string a0] rfl rfl ?_; (with_reducible refine (impl_linesOf.calls a0 t112 _ (GWm.below HGWm.out (bx HB.out)) A2.out).mono ?_); rintro e w16 ⟨v113, rfl, ho0, hb⟩; refine ⟨_, rfl, ?_⟩; replace HO107 := Aside0.mk (Kd.R_below (rf1 HO107.out BK111.out (by decide)) hb); replace HO110 := Aside0.mk (Kd.R_below (rf1 HO110.out BK111.out (by decide)) hb); have HO114 := Aside0.mk (Kd.R_lower (Kd.R_new' ho0 (Kd.R_lt (rf1 HO104.out BK111.out (by decide)))) (bz HB.out)); replace HO104 := Aside0.mk (Kd.R_elder' (rf1 HO104.out BK111.out (by decide)) (Kd.R_base ho0) hb); replace BK101 := Aside0.mk (blk_below (g := gb101) (o := .cells #[.slice none 0 0, .slice none 0 0, .bool false, .slice none 0 0] 26 (0, 0)) (cl BK101.out rfl) hb); replace BK111 := Aside0.mk (blk_below (g := gb111) (o := .cells #[.slice Ao12 y102.length co12, .slice Ao11 y105.length co11, .bool false, .slice Ao10 y108.length co10] 26 (0, 0)) (cl BK111.out rfl) hb); replace HB := kB HB hb; (try clear hb); (try clear hb2); (try clear hk); (try clear hi); (try clear ho0); obtain ⟨Ao17, co17, eo17⟩ := Kd.R_slice HO114.out; subst eo17))
  go_loopg [14] k (fun kq v14 w' => ∃ (x14_1 : Int) (x112000_1 : List ByteArray) (x112001_1 : List (S43)) (x112002_1 : Bool) (x112003_1 : List (S46)) (u112000 : Value) (u112001 : Value) (u112003 : Value), v14 = .int .i64 x14_1 ∧ Aside0 (impl_DeltaGet.l0 kq a0 t112 (t112.length : Int) x14_1 x112000_1 x112001_1 x112002_1 x112003_1 = some (r1, r2, r3, r4, r5)) ∧ Aside0 (kq ≤ k) ∧ Aside0 (Kd.R Kd.string 9 w' w.heap.size (fun k_ => some k_ ≠ (u112000 : Value).ownBlock) (.slice Ao17 t112.length co17) t112) ∧ Aside0 (Kd.R Kd.string 9 w' w.heap.size (fun k_ => some k_ ≠ ((.slice Ao17 t112.length co17) : Value).ownBlock) u112000 x112000_1) ∧ Aside0 (Kd.R k43 43 w' w.heap.size (fun _ => True) u112001 x112001_1) ∧ Aside0 (Kd.R k46 46 w' w.heap.size (fun _ => True) u112003 x112003_1) ∧ Aside0 (w'.heap[gb101]? = some (.cells #[(.slice none 0 0), (.slice none 0 0), .bool false, (.slice none 0 0)] 26 (0, 0))) ∧ Aside0 (w'.heap[gb111]? = some (.cells #[u112000, u112001, .bool x112002_1, u112003] 26 (0, 0))) ∧ Aside0 (Below w.heap.size w w'))
  case atStart => exact ⟨(0), (y102), (y105), (false), (y108), (.slice Ao12 y102.length co12), (.slice Ao11 y105.length co11), (.slice Ao10 y108.length co10), (by first | rfl | (simp; done) | (simp [*]; done)), H', ⟨Nat.le_refl _⟩, ⟨rx (Kd.R_mono HO114.out (fun _ hk => hk.2))⟩, ⟨rx (Kd.R_mono HO104.out (fun _ hk => hk.2))⟩, ⟨rx HO107.out⟩, ⟨rx HO110.out⟩, ⟨gx (BK101.out)⟩, ⟨gx (BK111.out)⟩, ⟨bx HB.out⟩⟩
  case round =>
    clear H'
    try clear c1
    try clear p2
    try clear c6
    try clear c14
    try clear hz15
    obtain ⟨x14_1, x112000_1, x112001_1, x112002_1, x112003_1, u112000, u112001, u112003, rfl, HA, HK1, HO_12, HO_112000, HO_112001, HO_112003, BK101, BK111, HB⟩ := hrel
    cases gk with
    | zero => exact absurd HA.out (by simp [impl_DeltaGet.l0])
    | succ k1 =>
      have H := HA.out
      clear HA
      simp only [impl_DeltaGet.l0] at H
      by_cases c18 : x14_1 < (t112.length : Int)
      · rw [if_pos c18] at H
        have c18b0 := decide_eq_true c18
        clear c18
        have c19 := ite_y H
        replace H := ite_t H
        have c19b0 := decide_eq_true c19
        clear c19
        have c20 := ite_y H
        replace H := ite_t H
        have c20b0 := decide_eq_true c20
        clear c20
        by_cases c21 : (rdOf ByteArray.empty t112 x14_1).toList = ([97, 102, 102, 105, 120, 101, 115] : List UInt8)
        · rw [if_pos c21] at H
          have c21b0 : ((rdOf ByteArray.empty t112 x14_1).toList == ([97, 102, 102, 105, 120, 101, 115] : List UInt8)) = true := beq_iff_eq.mpr c21
          have c21b1 : ((rdOf ByteArray.empty t112 x14_1).toList != ([97, 102, 102, 105, 120, 101, 115] : List UInt8)) = false := bne_eq_false_iff_eq.mpr c21
          clear c21
          have H' := Aside0.mk H
          clear H
          have p115 := of_decide_eq_true c19b0
          have q115 := of_decide_eq_true c20b0
          obtain ⟨ad115, e115, hx115_0⟩ := Kd.at_string (Kd.R_reads' HO_12.out).2.2 x14_1 p115 q115
          cases e115
          replace p115 := eq_true p115
          replace q115 := eq_true q115
          have hnb22 := NB111_101.out
          have hnc22 := NB101_111.out
          have hz23 := cells_4 BK111.out
          go_wp2
          go_roundg k1
          case measure => have := HK1.out; omega
          case rel => exact ⟨(wrap64 (x14_1 + 1)), (x112000_1), (x112001_1), (true), (x112003_1), (u112000), (u112001), (u112003), (by first | rfl | (simp; done) | (simp [*]; done)), H', ⟨by have := HK1.out; omega⟩, ⟨rf1 HO_12.out BK111.out (by decide)⟩, ⟨rf1 HO_112000.out BK111.out (by decide)⟩, ⟨Kd.R_mono (rf1 HO_112001.out BK111.out (by decide)) (fun _ _ => trivial)⟩, ⟨Kd.R_mono (rf1 HO_112003.out BK111.out (by decide)) (fun _ _ => trivial)⟩, ⟨cl BK101.out rfl⟩, ⟨cl BK111.out rfl⟩, ⟨bx HB.out⟩⟩
        · rw [if_neg c21] at H
          have c21b0 : ((rdOf ByteArray.empty t112 x14_1).toList == ([97, 102, 102, 105, 120, 101, 115] : List UInt8)) = false := beq_eq_false_iff_ne.mpr c21
          have c21b1 : ((rdOf ByteArray.empty t112 x14_1).toList != ([97, 102, 102, 105, 120, 101, 115] : List UInt8)) = true := bne_iff_ne.mpr c21
          replace H := Option.bind_eq_some_iff.mp H
          obtain ⟨t116, A240, H⟩ := H
          have A24 := Aside0.mk A240
          clear A240
          by_cases c25 : t116 = true
          · subst c25
            rw [if_pos rfl] at H
            have c26 := ite_y H
            replace H := ite_t H
            have c26b0 := eq_true c26
            have c26b1 := decide_eq_true c26
            clear c26
            have c27 := ite_y H
            replace H := ite_t H
            have LMc27 := Aside0.mk c27
            clear c27
            obtain ⟨y117, hy117⟩ : ∃ y_ : List ByteArray, y_ = (x112000_1 ++ [(rdOf ByteArray.empty t112 x14_1).extract 1 (rdOf ByteArray.empty t112 x14_1).size]) := ⟨_, rfl⟩
            replace H : (impl_DeltaGet.l0 k1 a0 t112 (t112.length : Int) (wrap64 (x14_1 + 1)) y117 x112001_1 x112002_1 x112003_1) = some (r1, r2, r3, r4, r5) := by first | (rw [hy117]; with_reducible exact H) | (have H2_ := (Option.bind_some _ _).symm.trans H; rw [hy117]; with_reducible exact H2_) | (have H2_ := (Option.bind_some _ _).symm.trans H; with_reducible exact H2_) | with_reducible exact H | (rw [hy117]; exact H) | exact H
            have Ny117 := Aside0.mk hy117
            clear hy117
            have H' := Aside0.mk H
            clear H
            have p115 := of_decide_eq_true c19b0
            have q115 := of_decide_eq_true c20b0
            obtain ⟨ad115, e115, hx115_0⟩ := Kd.at_string (Kd.R_reads' HO_12.out).2.2 x14_1 p115 q115
            cases e115
            replace p115 := eq_true p115
            replace q115 := eq_true q115
            try go_wp2_with (first | ((with_reducible refine gate_callee (f := 20) rfl ?_); refine goL (some 31) rfl rfl gf20 #[.string (rdOf ByteArray.empty t112 x14_1), .string (⟨#[45]⟩ : ByteArray)] rfl rfl ?_; (with_reducible refine (strings_HasPrefix.calls (rdOf ByteArray.empty t112 x14_1) (⟨#[45]⟩ : ByteArray) true _ A24.out).mono ?_); rintro e w' ⟨rfl, ⟨nd, rfl⟩⟩; refine ⟨_, rfl, ?_⟩; (try (rw [drewN_self wr]; generalize hq_ : World.drewN wr _ = wr; have n0_ : Aside0 (Kd.R Kd.string 9 wr w.heap.size (fun k_ => some k_ ≠ (.slice (some ad115) t112.length co17 : Value).ownBlock) u112000 x112000_1) := ⟨by rw [← hq_]; exact (rx HO_112000.out)⟩; have n1_ : Aside0 (Kd.R k43 43 wr w.heap.size (fun _ => True) u112001 x112001_1) := ⟨by rw [← hq_]; exact (rx HO_112001.out)⟩; have n2_ : Aside0 (Kd.R k46 46 wr w.heap.size (fun _ => True) u112003 x112003_1) := ⟨by rw [← hq_]; exact (rx HO_112003.out)⟩; have n3_ : Aside0 (Kd.R Kd.string 9 wr w.heap.size (fun k_ => some k_ ≠ (u112000 : Value).ownBlock) (.slice (some ad115) t112.length co17) t112) := ⟨by rw [← hq_]; exact (rx HO_12.out)⟩; have n4_ : Aside0 (wr.heap[gb101]? = some (.cells #[.slice none 0 0, .slice none 0 0, .bool false, .slice none 0 0] 26 (0, 0))) := ⟨by rw [← hq_]; exact (gx (BK101.out))⟩; have n5_ : Aside0 (wr.heap[gb111]? = some (.cells #[u112000, u112001, .bool x112002_1, u112003] 26 (0, 0))) := ⟨by rw [← hq_]; exact (gx (BK111.out))⟩; have n6_ : Aside0 (Below w.heap.size w wr) := ⟨by rw [← hq_]; exact (bx HB.out)⟩; clear HO_112000 HO_112001 HO_112003 HO_12 BK101 BK111 HB hq_; have HO_112000 := n0_; have HO_112001 := n1_; have HO_112003 := n2_; have HO_12 := n3_; have BK101 := n4_; have BK111 := n5_; have HB := n6_; clear n0_ n1_ n2_ n3_ n4_ n5_ n6_))))
            replace HO_12 := Aside0.mk (Kd.R_drew HO_12.out)
            replace HO_112000 := Aside0.mk (Kd.R_drew HO_112000.out)
            replace HO_112001 := Aside0.mk (Kd.R_drew HO_112001.out)
            replace HO_112003 := Aside0.mk (Kd.R_drew HO_112003.out)
            replace BK101 := Aside0.mk (blk_drew BK101.out)
            replace BK111 := Aside0.mk (blk_drew BK111.out)
            replace HB := Aside0.mk (below_drew1 HB.out)
            refine start_ (n := 8) (S := fun w' => w'.cell? ⟨gb111, 0, none⟩ = some (u112000) ∧ w'.cell? ⟨gb111, 1, none⟩ = some (u112001) ∧ w'.cell? ⟨gb111, 2, none⟩ = some (.bool x112002_1) ∧ w'.cell? ⟨gb111, 3, none⟩ = some (u112003)) (ds := [7]) _ (by kernel_rfl) rfl rfl ⟨(blk_cell BK111.out 0).trans rfl, (blk_cell BK111.out 1).trans rfl, (blk_cell BK111.out 2).trans rfl, (blk_cell BK111.out 3).trans rfl⟩ (fun hHeld => ?_); refine with_tabW impl_DeltaGet.tab9 impl_DeltaGet.bits9 (fun HT_ HW_ => ?_)
            generalize wr.drew = w28 at HO_12 HO_112000 HO_112001 HO_112003 BK101 BK111 HB hHeld ⊢
            refine ord_ [.p 0 32, .p 2 34, .p 3 35, .t 1 33] ?_
            repeat (first | (refine pu_ (v := ?_) (a' := ?_) HT_ rfl rfl (by kernel_rfl) (fun _ _ _ h => h) (by rfl) ?_ ?_ ?_; rotate_left 2; (intro w'; go_simp; with_reducible rfl); (simp only [Act.put, List.setIfInBounds_toArray, List.set_cons_zero, List.set_cons_succ, i64_w, i32_w]; rfl)) | (refine ta_ (v := ?_) (a' := ?_) HT_ HW_ rfl rfl (by kernel_rfl) (fun _ _ _ h => h) (by rfl) hHeld ?_ ?_ ?_; rotate_left 2; (rintro w' ⟨s0, s1, s2, s3⟩; go_simp; with_reducible rfl); (simp only [Act.put, List.setIfInBounds_toArray, List.set_cons_zero, List.set_cons_succ, i64_w, i32_w]; rfl)))
            refine ord0 ?_
            refine on_ (i := 4) (N := some 36) HT_ rfl rfl (by kernel_rfl) (by decide) (fun K hK => ?_)
            refine value_ (w1 := ?_) (v := ?_) (by rfl) rfl ?_ ?_
            rotate_left 2
            · go_simp
              constructor
              · rfl
              · rfl
            refine hK.out _ _ ⟨(blk_cell (blk_alloc BK111.out _) 0).trans rfl, (blk_cell (blk_alloc BK111.out _) 1).trans rfl, (blk_cell (blk_alloc BK111.out _) 2).trans rfl, (blk_cell (blk_alloc BK111.out _) 3).trans rfl⟩ (fun hHeld => ?_)
            clear hK K
            refine norm_ (a' := ?_) ?_ ?_
            rotate_left
            · show Act.put _ (some 36) _ = _
              simp only [Act.put, List.setIfInBounds_toArray, List.set_cons_zero, List.set_cons_succ, i64_w, i32_w]
              rfl
            refine on_ (i := 5) (N := some 37) HT_ rfl rfl (by kernel_rfl) (by decide) (fun K hK => ?_)
            refine Kd.R_append_step Kd.string (w0 := w) w.heap.size (by rfl) (.tmp 33) (.tmp 36) 22 9 (.string ⟨#[]⟩) 16 rfl Tryd.underlying22 info9 rfl (by decide) (by omega) u112000 x112000_1 ((rdOf ByteArray.empty t112 x14_1).extract 1 (rdOf ByteArray.empty t112 x14_1).size) [.string ((rdOf ByteArray.empty t112 x14_1).extract 1 (rdOf ByteArray.empty t112 x14_1).size)] (fun k_ => some k_ ≠ (.slice (some ad115) t112.length co17 : Value).ownBlock) (fun _ => False) rfl rfl ?aP (fun _ hk => hk.elim) ?aF ?aO ?aB ?aS ?aL ?_
            (case aP => exact rfl)
            (case aB => exact (bx HB.out))
            (case aF => exact (fun k_ hk => Kd.fresh' (Kd.R_lt (rx HO_12.out)) k_ hk))
            (case aO => exact (rx HO_112000.out))
            (case aS => exact (bz HB.out))
            (case aL => have := LMc27.out; omega)
            intro v118 w29 ho hb hg hat
            rw [← Ny117.out] at ho
            replace HO_12 := Aside0.mk (Kd.R_after (ok := (fun _ => True)) (rx (Kd.R_mono HO_12.out (fun _ hk => ⟨trivial, hk⟩))) hg hat)
            replace HO_112001 := Aside0.mk (Kd.R_over' (rx HO_112001.out) (Kd.R_typed (rx HO_112000.out)) (by decide) hg)
            replace HO_112003 := Aside0.mk (Kd.R_over' (rx HO_112003.out) (Kd.R_typed (rx HO_112000.out)) (by decide) hg)
            replace BK101 := Aside0.mk (blk_grown (g := gb101) (o := .cells #[.slice none 0 0, .slice none 0 0, .bool false, .slice none 0 0] 26 (0, 0)) (gx (BK101.out)) hg (Kd.R_ne HO_112000.out BK101.out (by decide)))
            replace BK111 := Aside0.mk (blk_grown (g := gb111) (o := .cells #[u112000, u112001, .bool x112002_1, u112003] 26 (0, 0)) (gx (BK111.out)) hg (Kd.R_ne HO_112000.out BK111.out (by decide)))
            replace HB := Aside0.mk (hb)
            have HO119 := Aside0.mk (ho)
            clear HO_112000
            clear ho hb hg hat
            obtain ⟨Ao30, co30, eo30⟩ := Kd.R_slice HO119.out
            (first | subst eo30 | (injection eo30 with f1_ f2_ f3_; have f4_ := f1_.symm; have f5_ := f3_.symm; clear f1_ f2_ f3_; subst f4_; subst f5_))
            refine hK.out _ _ ⟨(blk_cell BK111.out 0).trans rfl, (blk_cell BK111.out 1).trans rfl, (blk_cell BK111.out 2).trans rfl, (blk_cell BK111.out 3).trans rfl⟩ (fun hHeld => ?_)
            clear hK K
            refine norm_ (a' := ?_) ?_ ?_
            rotate_left
            · show Act.put _ (some 37) _ = _
              simp only [Act.put, List.setIfInBounds_toArray, List.set_cons_zero, List.set_cons_succ, i64_w, i32_w]
              rfl
            refine ord_ [.p 6 38] ?_
            repeat (refine pu_ (v := ?_) (a' := ?_) HT_ rfl rfl (by kernel_rfl) (fun _ _ _ h => h) (by rfl) ?_ ?_ ?_; rotate_left 2; (intro w'; go_simp; with_reducible rfl); (simp only [Act.put, List.setIfInBounds_toArray, List.set_cons_zero, List.set_cons_succ, i64_w, i32_w]; rfl))
            refine ord0 ?_
            refine last_ (i := 7) (N := none) #[true, true, true, true, true, true, true, true] rfl rfl (one_of HT_.out (by kernel_rfl)) (by decide) (fun K hK => ?_)
            have hs31 : w29.cell? ⟨gb111, 0, none⟩ = some (u112000) := (blk_cell BK111.out 0).trans rfl
            have hfs31 := blk_frozen BK111.out 0
            have hns31_0 := NB101_111.out
            have hms31_0 := NB111_101.out
            refine skip_ (w1 := ?_) (by rfl) rfl ?_ ?_
            rotate_left
            · go_simp
              rfl
            refine hK.out _ _ ?_
            clear hK K
            refine done_ (done_of HT_.out (by kernel_rfl)) ?_
            try go_wp2
            go_roundg k1
            case measure => have := HK1.out; omega
            case rel => exact ⟨(wrap64 (x14_1 + 1)), (y117), (x112001_1), (x112002_1), (x112003_1), (.slice Ao30 y117.length co30), (u112001), (u112003), (by first | rfl | (simp; done) | (simp [*]; done)), H', ⟨by have := HK1.out; omega⟩, ⟨Kd.R_mono (rf1 HO_12.out BK111.out (by decide)) (fun _ hk => hk.2)⟩, ⟨rf1 HO119.out BK111.out (by decide)⟩, ⟨Kd.R_mono (rf1 HO_112001.out BK111.out (by decide)) (fun _ _ => trivial)⟩, ⟨Kd.R_mono (rf1 HO_112003.out BK111.out (by decide)) (fun _ _ => trivial)⟩, ⟨cl BK101.out rfl⟩, ⟨cl BK111.out rfl⟩, ⟨bx HB.out⟩⟩
          · replace c25 := Bool.eq_false_iff.mpr c25
            subst c25
            rw [if_neg Bool.false_ne_true] at H
            replace H := Option.bind_eq_some_iff.mp H
            obtain ⟨t120, A320, H⟩ := H
            have A32 := Aside0.mk A320
            clear A320
            by_cases c33 : t120 = true
            · subst c33
              rw [if_pos rfl] at H
              have c34 := ite_y H
              replace H := ite_t H
              have c34b0 := eq_true c34
              have c34b1 := decide_eq_true c34
              clear c34
              replace H := Option.bind_eq_some_iff.mp H
              obtain ⟨⟨t121, t122⟩, A350, H⟩ := H
              replace H : (if x112001_1.length < 4398046511104 then (impl_DeltaGet.l0 k1 a0 t112 (t112.length : Int) (wrap64 (x14_1 + 1)) x112000_1 (x112001_1 ++ [(⟨t121, t122⟩ : S43)]) x112002_1 x112003_1) else (none)) = some (r1, r2, r3, r4, r5) := H
              have A35 := Aside0.mk A350
              clear A350
              have c36 := ite_y H
              replace H := ite_t H
              have LMc36 := Aside0.mk c36
              clear c36
              obtain ⟨y123, hy123⟩ : ∃ y_ : List (S43), y_ = (x112001_1 ++ [(⟨t121, t122⟩ : S43)]) := ⟨_, rfl⟩
              replace H : (impl_DeltaGet.l0 k1 a0 t112 (t112.length : Int) (wrap64 (x14_1 + 1)) x112000_1 y123 x112002_1 x112003_1) = some (r1, r2, r3, r4, r5) := by first | (rw [hy123]; with_reducible exact H) | (have H2_ := (Option.bind_some _ _).symm.trans H; rw [hy123]; with_reducible exact H2_) | (have H2_ := (Option.bind_some _ _).symm.trans H; with_reducible exact H2_) | with_reducible exact H | (rw [hy123]; exact H) | exact H
              have Ny123 := Aside0.mk hy123
              clear hy123
              have H' := Aside0.mk H
              clear H
              have p115 := of_decide_eq_true c19b0
              have q115 := of_decide_eq_true c20b0
              obtain ⟨ad115, e115, hx115_0⟩ := Kd.at_string (Kd.R_reads' HO_12.out).2.2 x14_1 p115 q115
              cases e115
              replace p115 := eq_true p115
              replace q115 := eq_true q115
              try go_wp2_with (first | ((with_reducible refine gate_callee (f := 20) rfl ?_); refine goL (some 31) rfl rfl gf20 #[.string (rdOf ByteArray.empty t112 x14_1), .string (⟨#[45]⟩ : ByteArray)] rfl rfl ?_; (with_reducible refine (strings_HasPrefix.calls (rdOf ByteArray.empty t112 x14_1) (⟨#[45]⟩ : ByteArray) false _ A24.out).mono ?_); rintro e w' ⟨rfl, ⟨nd, rfl⟩⟩; refine ⟨_, rfl, ?_⟩; (try (rw [drewN_self wr]; generalize hq_ : World.drewN wr _ = wr; have n0_ : Aside0 (Kd.R Kd.string 9 wr w.heap.size (fun k_ => some k_ ≠ (.slice (some ad115) t112.length co17 : Value).ownBlock) u112000 x112000_1) := ⟨by rw [← hq_]; exact (rx HO_112000.out)⟩; have n1_ : Aside0 (Kd.R k43 43 wr w.heap.size (fun _ => True) u112001 x112001_1) := ⟨by rw [← hq_]; exact (rx HO_112001.out)⟩; have n2_ : Aside0 (Kd.R k46 46 wr w.heap.size (fun _ => True) u112003 x112003_1) := ⟨by rw [← hq_]; exact (rx HO_112003.out)⟩; have n3_ : Aside0 (Kd.R Kd.string 9 wr w.heap.size (fun k_ => some k_ ≠ (u112000 : Value).ownBlock) (.slice (some ad115) t112.length co17) t112) := ⟨by rw [← hq_]; exact (rx HO_12.out)⟩; have n4_ : Aside0 (wr.heap[gb101]? = some (.cells #[.slice none 0 0, .slice none 0 0, .bool false, .slice none 0 0] 26 (0, 0))) := ⟨by rw [← hq_]; exact (gx (BK101.out))⟩; have n5_ : Aside0 (wr.heap[gb111]? = some (.cells #[u112000, u112001, .bool x112002_1, u112003] 26 (0, 0))) := ⟨by rw [← hq_]; exact (gx (BK111.out))⟩; have n6_ : Aside0 (Below w.heap.size w wr) := ⟨by rw [← hq_]; exact (bx HB.out)⟩; clear HO_112000 HO_112001 HO_112003 HO_12 BK101 BK111 HB hq_; have HO_112000 := n0_; have HO_112001 := n1_; have HO_112003 := n2_; have HO_12 := n3_; have BK101 := n4_; have BK111 := n5_; have HB := n6_; clear n0_ n1_ n2_ n3_ n4_ n5_ n6_))) | ((with_reducible refine gate_callee (f := 20) rfl ?_); refine goL (some 41) rfl rfl gf20 #[.string (rdOf ByteArray.empty t112 x14_1), .string (⟨#[43]⟩ : ByteArray)] rfl rfl ?_; (with_reducible refine (strings_HasPrefix.calls (rdOf ByteArray.empty t112 x14_1) (⟨#[43]⟩ : ByteArray) true _ A32.out).mono ?_); rintro e w' ⟨rfl, ⟨nd, rfl⟩⟩; refine ⟨_, rfl, ?_⟩; (try (rw [drewN_self wr]; generalize hq_ : World.drewN wr _ = wr; have n0_ : Aside0 (Kd.R Kd.string 9 wr w.heap.size (fun k_ => some k_ ≠ (.slice (some ad115) t112.length co17 : Value).ownBlock) u112000 x112000_1) := ⟨by rw [← hq_]; exact (rx HO_112000.out)⟩; have n1_ : Aside0 (Kd.R k43 43 wr w.heap.size (fun _ => True) u112001 x112001_1) := ⟨by rw [← hq_]; exact (rx HO_112001.out)⟩; have n2_ : Aside0 (Kd.R k46 46 wr w.heap.size (fun _ => True) u112003 x112003_1) := ⟨by rw [← hq_]; exact (rx HO_112003.out)⟩; have n3_ : Aside0 (Kd.R Kd.string 9 wr w.heap.size (fun k_ => some k_ ≠ (u112000 : Value).ownBlock) (.slice (some ad115) t112.length co17) t112) := ⟨by rw [← hq_]; exact (rx HO_12.out)⟩; have n4_ : Aside0 (wr.heap[gb101]? = some (.cells #[.slice none 0 0, .slice none 0 0, .bool false, .slice none 0 0] 26 (0, 0))) := ⟨by rw [← hq_]; exact (gx (BK101.out))⟩; have n5_ : Aside0 (wr.heap[gb111]? = some (.cells #[u112000, u112001, .bool x112002_1, u112003] 26 (0, 0))) := ⟨by rw [← hq_]; exact (gx (BK111.out))⟩; have n6_ : Aside0 (Below w.heap.size w wr) := ⟨by rw [← hq_]; exact (bx HB.out)⟩; clear HO_112000 HO_112001 HO_112003 HO_12 BK101 BK111 HB hq_; have HO_112000 := n0_; have HO_112001 := n1_; have HO_112003 := n2_; have HO_12 := n3_; have BK101 := n4_; have BK111 := n5_; have HB := n6_; clear n0_ n1_ n2_ n3_ n4_ n5_ n6_))))
              replace HO_12 := Aside0.mk (Kd.R_drew HO_12.out)
              replace HO_112000 := Aside0.mk (Kd.R_drew HO_112000.out)
              replace HO_112001 := Aside0.mk (Kd.R_drew HO_112001.out)
              replace HO_112003 := Aside0.mk (Kd.R_drew HO_112003.out)
              replace BK101 := Aside0.mk (blk_drew BK101.out)
              replace BK111 := Aside0.mk (blk_drew BK111.out)
              replace HB := Aside0.mk (below_drew1 HB.out)
              refine start_ (n := 9) (S := fun w' => w'.cell? ⟨gb111, 0, none⟩ = some (u112000) ∧ w'.cell? ⟨gb111, 1, none⟩ = some (u112001) ∧ w'.cell? ⟨gb111, 2, none⟩ = some (.bool x112002_1) ∧ w'.cell? ⟨gb111, 3, none⟩ = some (u112003)) (ds := [8]) _ (by kernel_rfl) rfl rfl ⟨(blk_cell BK111.out 0).trans rfl, (blk_cell BK111.out 1).trans rfl, (blk_cell BK111.out 2).trans rfl, (blk_cell BK111.out 3).trans rfl⟩ (fun hHeld => ?_); refine with_tabW impl_DeltaGet.tab11 impl_DeltaGet.bits11 (fun HT_ HW_ => ?_)
              generalize wr.drew = w37 at HO_12 HO_112000 HO_112001 HO_112003 BK101 BK111 HB hHeld ⊢
              refine ord_ [.p 0 42, .p 2 44, .p 3 45, .t 1 43] ?_
              repeat (first | (refine pu_ (v := ?_) (a' := ?_) HT_ rfl rfl (by kernel_rfl) (fun _ _ _ h => h) (by rfl) ?_ ?_ ?_; rotate_left 2; (intro w'; go_simp; with_reducible rfl); (simp only [Act.put, List.setIfInBounds_toArray, List.set_cons_zero, List.set_cons_succ, i64_w, i32_w]; rfl)) | (refine ta_ (v := ?_) (a' := ?_) HT_ HW_ rfl rfl (by kernel_rfl) (fun _ _ _ h => h) (by rfl) hHeld ?_ ?_ ?_; rotate_left 2; (rintro w' ⟨s0, s1, s2, s3⟩; go_simp; with_reducible rfl); (simp only [Act.put, List.setIfInBounds_toArray, List.set_cons_zero, List.set_cons_succ, i64_w, i32_w]; rfl)))
              refine ord0 ?_
              refine on_ (i := 4) (N := some 46) HT_ rfl rfl (by kernel_rfl) (by decide) (fun K hK => ?_)
              refine goM gf21 #[.string ((rdOf ByteArray.empty t112 x14_1).extract 1 (rdOf ByteArray.empty t112 x14_1).size)] (by rfl) rfl rfl rfl ?_
              with_reducible refine (impl_readEntry.calls ((rdOf ByteArray.empty t112 x14_1).extract 1 (rdOf ByteArray.empty t112 x14_1).size) t121 t122 _ ?side1 A35.out).mono ?_
              (case side1 => exact GWm.below HGWm.out (bx HB.out))
              rintro e w38 ⟨rfl, hb⟩
              refine ⟨_, rfl, ?_⟩
              replace HO_12 := kR HO_12 hb
              replace HO_112000 := kR HO_112000 hb
              replace HO_112001 := kR HO_112001 hb
              replace HO_112003 := kR HO_112003 hb
              replace BK101 := kb BK101 hb
              replace BK111 := kb BK111 hb
              replace HB := kB HB hb
              (try clear hb)
              (try clear hb2)
              (try clear hk)
              (try clear hi)
              refine hK.out _ _ ⟨(blk_cell BK111.out 0).trans rfl, (blk_cell BK111.out 1).trans rfl, (blk_cell BK111.out 2).trans rfl, (blk_cell BK111.out 3).trans rfl⟩ (fun hHeld => ?_)
              clear hK K
              refine norm_ (a' := ?_) ?_ ?_
              rotate_left
              · show Act.put _ (some 46) _ = _
                simp only [Act.put, List.setIfInBounds_toArray, List.set_cons_zero, List.set_cons_succ, i64_w, i32_w]
                rfl
              refine on_ (i := 5) (N := some 47) HT_ rfl rfl (by kernel_rfl) (by decide) (fun K hK => ?_)
              refine value_ (w1 := ?_) (v := ?_) (by rfl) rfl ?_ ?_
              rotate_left 2
              · go_simp
                constructor
                · rfl
                · rfl
              refine hK.out _ _ ⟨(blk_cell (blk_alloc BK111.out _) 0).trans rfl, (blk_cell (blk_alloc BK111.out _) 1).trans rfl, (blk_cell (blk_alloc BK111.out _) 2).trans rfl, (blk_cell (blk_alloc BK111.out _) 3).trans rfl⟩ (fun hHeld => ?_)
              clear hK K
              refine norm_ (a' := ?_) ?_ ?_
              rotate_left
              · show Act.put _ (some 47) _ = _
                simp only [Act.put, List.setIfInBounds_toArray, List.set_cons_zero, List.set_cons_succ, i64_w, i32_w]
                rfl
              refine on_ (i := 6) (N := some 48) HT_ rfl rfl (by kernel_rfl) (by decide) (fun K hK => ?_)
              refine Kd.R_append_step k43 (w0 := w) w.heap.size (by rfl) (.tmp 43) (.tmp 47) 23 43 (.agg #[(.string ⟨#[]⟩), (.string ⟨#[]⟩)]) 32 rfl Tryd.underlying23 info43 rfl (by decide) (by omega) u112001 x112001_1 (⟨t121, t122⟩ : S43) [.string t121, .string t122] (fun _ => True) (fun _ => False) rfl rfl ?aP (fun _ hk => hk.elim) ?aF ?aO ?aB ?aS ?aL ?_
              (case aP => exact k43_mkM _ _ _ (⟨t121, t122⟩ : S43))
              (case aB => exact (bx HB.out))
              (case aF => exact (fun _ _ => trivial))
              (case aO => exact (rx HO_112001.out))
              (case aS => exact (bz HB.out))
              (case aL => have := LMc36.out; omega)
              intro v124 w39 ho hb hg hat
              rw [← Ny123.out] at ho
              replace HO_12 := Aside0.mk (Kd.R_over' (rx HO_12.out) (Kd.R_typed (rx HO_112001.out)) (by decide) hg)
              replace HO_112000 := Aside0.mk (Kd.R_over' (rx HO_112000.out) (Kd.R_typed (rx HO_112001.out)) (by decide) hg)
              replace HO_112003 := Aside0.mk (Kd.R_over' (rx HO_112003.out) (Kd.R_typed (rx HO_112001.out)) (by decide) hg)
              replace BK101 := Aside0.mk (blk_grown (g := gb101) (o := .cells #[.slice none 0 0, .slice none 0 0, .bool false, .slice none 0 0] 26 (0, 0)) (gx (BK101.out)) hg (Kd.R_ne HO_112001.out BK101.out (by decide)))
              replace BK111 := Aside0.mk (blk_grown (g := gb111) (o := .cells #[u112000, u112001, .bool x112002_1, u112003] 26 (0, 0)) (gx (BK111.out)) hg (Kd.R_ne HO_112001.out BK111.out (by decide)))
              replace HB := Aside0.mk (hb)
              have HO125 := Aside0.mk (ho)
              clear HO_112001
              clear ho hb hg hat
              obtain ⟨Ao40, co40, eo40⟩ := Kd.R_slice HO125.out
              (first | subst eo40 | (injection eo40 with f1_ f2_ f3_; have f4_ := f1_.symm; have f5_ := f3_.symm; clear f1_ f2_ f3_; subst f4_; subst f5_))
              refine hK.out _ _ ⟨(blk_cell BK111.out 0).trans rfl, (blk_cell BK111.out 1).trans rfl, (blk_cell BK111.out 2).trans rfl, (blk_cell BK111.out 3).trans rfl⟩ (fun hHeld => ?_)
              clear hK K
              refine norm_ (a' := ?_) ?_ ?_
              rotate_left
              · show Act.put _ (some 48) _ = _
                simp only [Act.put, List.setIfInBounds_toArray, List.set_cons_zero, List.set_cons_succ, i64_w, i32_w]
                rfl
              refine ord_ [.p 7 49] ?_
              repeat (refine pu_ (v := ?_) (a' := ?_) HT_ rfl rfl (by kernel_rfl) (fun _ _ _ h => h) (by rfl) ?_ ?_ ?_; rotate_left 2; (intro w'; go_simp; with_reducible rfl); (simp only [Act.put, List.setIfInBounds_toArray, List.set_cons_zero, List.set_cons_succ, i64_w, i32_w]; rfl))
              refine ord0 ?_
              refine last_ (i := 8) (N := none) #[true, true, true, true, true, true, true, true, true] rfl rfl (one_of HT_.out (by kernel_rfl)) (by decide) (fun K hK => ?_)
              have hs41 : w39.cell? ⟨gb111, 1, none⟩ = some (u112001) := (blk_cell BK111.out 1).trans rfl
              have hfs41 := blk_frozen BK111.out 1
              have hns41_0 := NB101_111.out
              have hms41_0 := NB111_101.out
              refine skip_ (w1 := ?_) (by rfl) rfl ?_ ?_
              rotate_left
              · go_simp
                rfl
              refine hK.out _ _ ?_
              clear hK K
              refine done_ (done_of HT_.out (by kernel_rfl)) ?_
              try go_wp2
              go_roundg k1
              case measure => have := HK1.out; omega
              case rel => exact ⟨(wrap64 (x14_1 + 1)), (x112000_1), (y123), (x112002_1), (x112003_1), (u112000), (.slice Ao40 y123.length co40), (u112003), (by first | rfl | (simp; done) | (simp [*]; done)), H', ⟨by have := HK1.out; omega⟩, ⟨rf1 HO_12.out BK111.out (by decide)⟩, ⟨rf1 HO_112000.out BK111.out (by decide)⟩, ⟨Kd.R_mono (rf1 HO125.out BK111.out (by decide)) (fun _ _ => trivial)⟩, ⟨Kd.R_mono (rf1 HO_112003.out BK111.out (by decide)) (fun _ _ => trivial)⟩, ⟨cl BK101.out rfl⟩, ⟨cl BK111.out rfl⟩, ⟨bx HB.out⟩⟩
            · replace c33 := Bool.eq_false_iff.mpr c33
              subst c33
              rw [if_neg Bool.false_ne_true] at H
              replace H := Option.bind_eq_some_iff.mp H
              obtain ⟨⟨t126, t127, t128, t129, t130⟩, A420, H⟩ := H
              replace H : (if x112003_1.length < 1954687338268 then (impl_DeltaGet.l0 k1 a0 t112 (t112.length : Int) (wrap64 (x14_1 + 1)) x112000_1 x112001_1 x112002_1 (x112003_1 ++ [(⟨t126, t127, t128, t129, t130⟩ : S46)])) else (none)) = some (r1, r2, r3, r4, r5) := H
              have A42 := Aside0.mk A420
              clear A420
              have c43 := ite_y H
              replace H := ite_t H
              have LMc43 := Aside0.mk c43
              clear c43
              obtain ⟨y131, hy131⟩ : ∃ y_ : List (S46), y_ = (x112003_1 ++ [(⟨t126, t127, t128, t129, t130⟩ : S46)]) := ⟨_, rfl⟩
              replace H : (impl_DeltaGet.l0 k1 a0 t112 (t112.length : Int) (wrap64 (x14_1 + 1)) x112000_1 x112001_1 x112002_1 y131) = some (r1, r2, r3, r4, r5) := by first | (rw [hy131]; with_reducible exact H) | (have H2_ := (Option.bind_some _ _).symm.trans H; rw [hy131]; with_reducible exact H2_) | (have H2_ := (Option.bind_some _ _).symm.trans H; with_reducible exact H2_) | with_reducible exact H | (rw [hy131]; exact H) | exact H
              have Ny131 := Aside0.mk hy131
              clear hy131
              have H' := Aside0.mk H
              clear H
              have p115 := of_decide_eq_true c19b0
              have q115 := of_decide_eq_true c20b0
              obtain ⟨ad115, e115, hx115_0⟩ := Kd.at_string (Kd.R_reads' HO_12.out).2.2 x14_1 p115 q115
              cases e115
              replace p115 := eq_true p115
              replace q115 := eq_true q115
              try go_wp2_with (first | ((with_reducible refine gate_callee (f := 20) rfl ?_); refine goL (some 31) rfl rfl gf20 #[.string (rdOf ByteArray.empty t112 x14_1), .string (⟨#[45]⟩ : ByteArray)] rfl rfl ?_; (with_reducible refine (strings_HasPrefix.calls (rdOf ByteArray.empty t112 x14_1) (⟨#[45]⟩ : ByteArray) false _ A24.out).mono ?_); rintro e w' ⟨rfl, ⟨nd, rfl⟩⟩; refine ⟨_, rfl, ?_⟩; (try (rw [drewN_self wr]; generalize hq_ : World.drewN wr _ = wr; have n0_ : Aside0 (Kd.R Kd.string 9 wr w.heap.size (fun k_ => some k_ ≠ (.slice (some ad115) t112.length co17 : Value).ownBlock) u112000 x112000_1) := ⟨by rw [← hq_]; exact (rx HO_112000.out)⟩; have n1_ : Aside0 (Kd.R k43 43 wr w.heap.size (fun _ => True) u112001 x112001_1) := ⟨by rw [← hq_]; exact (rx HO_112001.out)⟩; have n2_ : Aside0 (Kd.R k46 46 wr w.heap.size (fun _ => True) u112003 x112003_1) := ⟨by rw [← hq_]; exact (rx HO_112003.out)⟩; have n3_ : Aside0 (Kd.R Kd.string 9 wr w.heap.size (fun k_ => some k_ ≠ (u112000 : Value).ownBlock) (.slice (some ad115) t112.length co17) t112) := ⟨by rw [← hq_]; exact (rx HO_12.out)⟩; have n4_ : Aside0 (wr.heap[gb101]? = some (.cells #[.slice none 0 0, .slice none 0 0, .bool false, .slice none 0 0] 26 (0, 0))) := ⟨by rw [← hq_]; exact (gx (BK101.out))⟩; have n5_ : Aside0 (wr.heap[gb111]? = some (.cells #[u112000, u112001, .bool x112002_1, u112003] 26 (0, 0))) := ⟨by rw [← hq_]; exact (gx (BK111.out))⟩; have n6_ : Aside0 (Below w.heap.size w wr) := ⟨by rw [← hq_]; exact (bx HB.out)⟩; clear HO_112000 HO_112001 HO_112003 HO_12 BK101 BK111 HB hq_; have HO_112000 := n0_; have HO_112001 := n1_; have HO_112003 := n2_; have HO_12 := n3_; have BK101 := n4_; have BK111 := n5_; have HB := n6_; clear n0_ n1_ n2_ n3_ n4_ n5_ n6_))) | ((with_reducible refine gate_callee (f := 20) rfl ?_); refine goL (some 41) rfl rfl gf20 #[.string (rdOf ByteArray.empty t112 x14_1), .string (⟨#[43]⟩ : ByteArray)] rfl rfl ?_; (with_reducible refine (strings_HasPrefix.calls (rdOf ByteArray.empty t112 x14_1) (⟨#[43]⟩ : ByteArray) false _ A32.out).mono ?_); rintro e w' ⟨rfl, ⟨nd, rfl⟩⟩; refine ⟨_, rfl, ?_⟩; (try (rw [drewN_self wr]; generalize hq_ : World.drewN wr _ = wr; have n0_ : Aside0 (Kd.R Kd.string 9 wr w.heap.size (fun k_ => some k_ ≠ (.slice (some ad115) t112.length co17 : Value).ownBlock) u112000 x112000_1) := ⟨by rw [← hq_]; exact (rx HO_112000.out)⟩; have n1_ : Aside0 (Kd.R k43 43 wr w.heap.size (fun _ => True) u112001 x112001_1) := ⟨by rw [← hq_]; exact (rx HO_112001.out)⟩; have n2_ : Aside0 (Kd.R k46 46 wr w.heap.size (fun _ => True) u112003 x112003_1) := ⟨by rw [← hq_]; exact (rx HO_112003.out)⟩; have n3_ : Aside0 (Kd.R Kd.string 9 wr w.heap.size (fun k_ => some k_ ≠ (u112000 : Value).ownBlock) (.slice (some ad115) t112.length co17) t112) := ⟨by rw [← hq_]; exact (rx HO_12.out)⟩; have n4_ : Aside0 (wr.heap[gb101]? = some (.cells #[.slice none 0 0, .slice none 0 0, .bool false, .slice none 0 0] 26 (0, 0))) := ⟨by rw [← hq_]; exact (gx (BK101.out))⟩; have n5_ : Aside0 (wr.heap[gb111]? = some (.cells #[u112000, u112001, .bool x112002_1, u112003] 26 (0, 0))) := ⟨by rw [← hq_]; exact (gx (BK111.out))⟩; have n6_ : Aside0 (Below w.heap.size w wr) := ⟨by rw [← hq_]; exact (bx HB.out)⟩; clear HO_112000 HO_112001 HO_112003 HO_12 BK101 BK111 HB hq_; have HO_112000 := n0_; have HO_112001 := n1_; have HO_112003 := n2_; have HO_12 := n3_; have BK101 := n4_; have BK111 := n5_; have HB := n6_; clear n0_ n1_ n2_ n3_ n4_ n5_ n6_))))
              replace HO_12 := Aside0.mk (Kd.R_drew HO_12.out)
              replace HO_112000 := Aside0.mk (Kd.R_drew HO_112000.out)
              replace HO_112001 := Aside0.mk (Kd.R_drew HO_112001.out)
              replace HO_112003 := Aside0.mk (Kd.R_drew HO_112003.out)
              replace BK101 := Aside0.mk (blk_drew BK101.out)
              replace BK111 := Aside0.mk (blk_drew BK111.out)
              replace HB := Aside0.mk (below_drew1 HB.out)
              refine start_ (n := 8) (S := fun w' => w'.cell? ⟨gb111, 0, none⟩ = some (u112000) ∧ w'.cell? ⟨gb111, 1, none⟩ = some (u112001) ∧ w'.cell? ⟨gb111, 2, none⟩ = some (.bool x112002_1) ∧ w'.cell? ⟨gb111, 3, none⟩ = some (u112003)) (ds := [7]) _ (by kernel_rfl) rfl rfl ⟨(blk_cell BK111.out 0).trans rfl, (blk_cell BK111.out 1).trans rfl, (blk_cell BK111.out 2).trans rfl, (blk_cell BK111.out 3).trans rfl⟩ (fun hHeld => ?_); refine with_tabW impl_DeltaGet.tab5 impl_DeltaGet.bits5 (fun HT_ HW_ => ?_)
              generalize wr.drew = w44 at HO_12 HO_112000 HO_112001 HO_112003 BK101 BK111 HB hHeld ⊢
              refine ord_ [.p 0 18, .p 2 20, .t 1 19] ?_
              repeat (first | (refine pu_ (v := ?_) (a' := ?_) HT_ rfl rfl (by kernel_rfl) (fun _ _ _ h => h) (by rfl) ?_ ?_ ?_; rotate_left 2; (intro w'; go_simp; with_reducible rfl); (simp only [Act.put, List.setIfInBounds_toArray, List.set_cons_zero, List.set_cons_succ, i64_w, i32_w]; rfl)) | (refine ta_ (v := ?_) (a' := ?_) HT_ HW_ rfl rfl (by kernel_rfl) (fun _ _ _ h => h) (by rfl) hHeld ?_ ?_ ?_; rotate_left 2; (rintro w' ⟨s0, s1, s2, s3⟩; go_simp; with_reducible rfl); (simp only [Act.put, List.setIfInBounds_toArray, List.set_cons_zero, List.set_cons_succ, i64_w, i32_w]; rfl)))
              refine ord0 ?_
              refine on_ (i := 3) (N := some 21) HT_ rfl rfl (by kernel_rfl) (by decide) (fun K hK => ?_)
              refine goM gf22 #[.string (rdOf ByteArray.empty t112 x14_1)] (by rfl) rfl rfl rfl ?_
              with_reducible refine (impl_readAffix.calls (rdOf ByteArray.empty t112 x14_1) t126 t127 t128 t129 t130 _ ?side1 A42.out).mono ?_
              (case side1 => exact GWm.below HGWm.out (bx HB.out))
              rintro e w45 ⟨rfl, hb⟩
              refine ⟨_, rfl, ?_⟩
              replace HO_12 := kR HO_12 hb
              replace HO_112000 := kR HO_112000 hb
              replace HO_112001 := kR HO_112001 hb
              replace HO_112003 := kR HO_112003 hb
              replace BK101 := kb BK101 hb
              replace BK111 := kb BK111 hb
              replace HB := kB HB hb
              (try clear hb)
              (try clear hb2)
              (try clear hk)
              (try clear hi)
              refine hK.out _ _ ⟨(blk_cell BK111.out 0).trans rfl, (blk_cell BK111.out 1).trans rfl, (blk_cell BK111.out 2).trans rfl, (blk_cell BK111.out 3).trans rfl⟩ (fun hHeld => ?_)
              clear hK K
              refine norm_ (a' := ?_) ?_ ?_
              rotate_left
              · show Act.put _ (some 21) _ = _
                simp only [Act.put, List.setIfInBounds_toArray, List.set_cons_zero, List.set_cons_succ, i64_w, i32_w]
                rfl
              refine on_ (i := 4) (N := some 22) HT_ rfl rfl (by kernel_rfl) (by decide) (fun K hK => ?_)
              refine value_ (w1 := ?_) (v := ?_) (by rfl) rfl ?_ ?_
              rotate_left 2
              · go_simp
                constructor
                · rfl
                · rfl
              refine hK.out _ _ ⟨(blk_cell (blk_alloc BK111.out _) 0).trans rfl, (blk_cell (blk_alloc BK111.out _) 1).trans rfl, (blk_cell (blk_alloc BK111.out _) 2).trans rfl, (blk_cell (blk_alloc BK111.out _) 3).trans rfl⟩ (fun hHeld => ?_)
              clear hK K
              refine norm_ (a' := ?_) ?_ ?_
              rotate_left
              · show Act.put _ (some 22) _ = _
                simp only [Act.put, List.setIfInBounds_toArray, List.set_cons_zero, List.set_cons_succ, i64_w, i32_w]
                rfl
              refine on_ (i := 5) (N := some 23) HT_ rfl rfl (by kernel_rfl) (by decide) (fun K hK => ?_)
              refine Kd.R_append_step k46 (w0 := w) w.heap.size (by rfl) (.tmp 19) (.tmp 22) 24 46 (.agg #[(.string ⟨#[]⟩), (.bool false), (.string ⟨#[]⟩), (.string ⟨#[]⟩), (.string ⟨#[]⟩)]) 72 rfl Tryd.underlying24 info46 rfl (by decide) (by omega) u112003 x112003_1 (⟨t126, t127, t128, t129, t130⟩ : S46) [.string t126, .bool t127, .string t128, .string t129, .string t130] (fun _ => True) (fun _ => False) rfl rfl ?aP (fun _ hk => hk.elim) ?aF ?aO ?aB ?aS ?aL ?_
              (case aP => exact k46_mkM _ _ _ (⟨t126, t127, t128, t129, t130⟩ : S46))
              (case aB => exact (bx HB.out))
              (case aF => exact (fun _ _ => trivial))
              (case aO => exact (rx HO_112003.out))
              (case aS => exact (bz HB.out))
              (case aL => have := LMc43.out; omega)
              intro v132 w46 ho hb hg hat
              rw [← Ny131.out] at ho
              replace HO_12 := Aside0.mk (Kd.R_over' (rx HO_12.out) (Kd.R_typed (rx HO_112003.out)) (by decide) hg)
              replace HO_112000 := Aside0.mk (Kd.R_over' (rx HO_112000.out) (Kd.R_typed (rx HO_112003.out)) (by decide) hg)
              replace HO_112001 := Aside0.mk (Kd.R_over' (rx HO_112001.out) (Kd.R_typed (rx HO_112003.out)) (by decide) hg)
              replace BK101 := Aside0.mk (blk_grown (g := gb101) (o := .cells #[.slice none 0 0, .slice none 0 0, .bool false, .slice none 0 0] 26 (0, 0)) (gx (BK101.out)) hg (Kd.R_ne HO_112003.out BK101.out (by decide)))
              replace BK111 := Aside0.mk (blk_grown (g := gb111) (o := .cells #[u112000, u112001, .bool x112002_1, u112003] 26 (0, 0)) (gx (BK111.out)) hg (Kd.R_ne HO_112003.out BK111.out (by decide)))
              replace HB := Aside0.mk (hb)
              have HO133 := Aside0.mk (ho)
              clear HO_112003
              clear ho hb hg hat
              obtain ⟨Ao47, co47, eo47⟩ := Kd.R_slice HO133.out
              (first | subst eo47 | (injection eo47 with f1_ f2_ f3_; have f4_ := f1_.symm; have f5_ := f3_.symm; clear f1_ f2_ f3_; subst f4_; subst f5_))
              refine hK.out _ _ ⟨(blk_cell BK111.out 0).trans rfl, (blk_cell BK111.out 1).trans rfl, (blk_cell BK111.out 2).trans rfl, (blk_cell BK111.out 3).trans rfl⟩ (fun hHeld => ?_)
              clear hK K
              refine norm_ (a' := ?_) ?_ ?_
              rotate_left
              · show Act.put _ (some 23) _ = _
                simp only [Act.put, List.setIfInBounds_toArray, List.set_cons_zero, List.set_cons_succ, i64_w, i32_w]
                rfl
              refine ord_ [.p 6 24] ?_
              repeat (refine pu_ (v := ?_) (a' := ?_) HT_ rfl rfl (by kernel_rfl) (fun _ _ _ h => h) (by rfl) ?_ ?_ ?_; rotate_left 2; (intro w'; go_simp; with_reducible rfl); (simp only [Act.put, List.setIfInBounds_toArray, List.set_cons_zero, List.set_cons_succ, i64_w, i32_w]; rfl))
              refine ord0 ?_
              refine last_ (i := 7) (N := none) #[true, true, true, true, true, true, true, true] rfl rfl (one_of HT_.out (by kernel_rfl)) (by decide) (fun K hK => ?_)
              have hs48 : w46.cell? ⟨gb111, 3, none⟩ = some (u112003) := (blk_cell BK111.out 3).trans rfl
              have hfs48 := blk_frozen BK111.out 3
              have hns48_0 := NB101_111.out
              have hms48_0 := NB111_101.out
              refine skip_ (w1 := ?_) (by rfl) rfl ?_ ?_
              rotate_left
              · go_simp
                rfl
              refine hK.out _ _ ?_
              clear hK K
              refine done_ (done_of HT_.out (by kernel_rfl)) ?_
              try go_wp2
              go_roundg k1
              case measure => have := HK1.out; omega
              case rel => exact ⟨(wrap64 (x14_1 + 1)), (x112000_1), (x112001_1), (x112002_1), (y131), (u112000), (u112001), (.slice Ao47 y131.length co47), (by first | rfl | (simp; done) | (simp [*]; done)), H', ⟨by have := HK1.out; omega⟩, ⟨rf1 HO_12.out BK111.out (by decide)⟩, ⟨rf1 HO_112000.out BK111.out (by decide)⟩, ⟨Kd.R_mono (rf1 HO_112001.out BK111.out (by decide)) (fun _ _ => trivial)⟩, ⟨Kd.R_mono (rf1 HO133.out BK111.out (by decide)) (fun _ _ => trivial)⟩, ⟨cl BK101.out rfl⟩, ⟨cl BK111.out rfl⟩, ⟨bx HB.out⟩⟩
      · rw [if_neg c18] at H
        have c18b0 := decide_eq_false c18
        clear c18
        replace H := Option.bind_eq_some_iff.mp H
        obtain ⟨t134, A490, H⟩ := H
        have A49 := Aside0.mk A490
        clear A490
        by_cases c50 : t134 = true
        · subst c50
          rw [if_pos rfl] at H
          replace H := Option.bind_eq_some_iff.mp H
          obtain ⟨t135, A510, H⟩ := H
          have A51 := Aside0.mk A510
          clear A510
          by_cases c52 : t135.toList = a0.toList
          · rw [if_pos c52] at H
            have c52b0 : (t135.toList == a0.toList) = true := beq_iff_eq.mpr c52
            have c52b1 : (t135.toList != a0.toList) = false := bne_eq_false_iff_eq.mpr c52
            clear c52
            simp only [Option.some.injEq, Prod.mk.injEq] at H
            obtain ⟨rfl, rfl, rfl, rfl, rfl⟩ := H
            have hnb53 := NB111_101.out
            have hnc53 := NB101_111.out
            have hz54 := cells_4 BK111.out
            obtain ⟨Ao55, co55, eo55⟩ := Kd.R_slice HO_112000.out
            subst eo55
            obtain ⟨Ao56, co56, eo56⟩ := Kd.R_slice HO_112001.out
            subst eo56
            obtain ⟨Ao57, co57, eo57⟩ := Kd.R_slice HO_112003.out
            subst eo57
            go_wp2_with (first | ((with_reducible refine gate_callee (f := 23) rfl ?_); refine goL (some 52) rfl rfl gf23 #[.agg #[.slice Ao55 x112000_1.length co55, .slice Ao56 x112001_1.length co56, .bool x112002_1, .slice Ao57 x112003_1.length co57]] rfl rfl ?_; (with_reducible refine (impl_DeltaOk.calls k1 _ _ x112000_1 _ _ x112001_1 x112002_1 _ _ x112003_1 true _ (cx (Kd.R_reads' HO_112000.out).2.2) ((Kd.R_reads' HO_112000.out).2.1) (cx (Kd.R_reads' HO_112001.out).2.2) ((Kd.R_reads' HO_112001.out).2.1) (cx (Kd.R_reads' HO_112003.out).2.2) ((Kd.R_reads' HO_112003.out).2.1) A49.out).mono ?_); rintro e w58 ⟨rfl, hb⟩; refine ⟨_, rfl, ?_⟩; replace HO_12 := kR HO_12 hb; replace HO_112000 := kR HO_112000 hb; replace HO_112001 := kR HO_112001 hb; replace HO_112003 := kR HO_112003 hb; replace BK101 := kb BK101 hb; replace BK111 := kb BK111 hb; replace HB := kB HB hb; (try clear hb); (try clear hb2); (try clear hk); (try clear hi); have hz59 := cells_4 BK111.out) | (go_at_call 11; (with_reducible refine (impl_DeltaPut.calls k1 _ _ x112000_1 _ _ x112001_1 x112002_1 _ _ x112003_1 t135 _ (cx (Kd.R_reads' HO_112000.out).2.2) ((Kd.R_reads' HO_112000.out).2.1) (cx (Kd.R_reads' HO_112001.out).2.2) ((Kd.R_reads' HO_112001.out).2.1) (cx (Kd.R_reads' HO_112003.out).2.2) ((Kd.R_reads' HO_112003.out).2.1) A51.out).mono ?_); rintro e w60 ⟨rfl, hb⟩; replace HO_12 := kR HO_12 hb; replace HO_112000 := kR HO_112000 hb; replace HO_112001 := kR HO_112001 hb; replace HO_112003 := kR HO_112003 hb; replace BK101 := kb BK101 hb; replace BK111 := kb BK111 hb; replace HB := kB HB hb; (try clear hb); (try clear hb2); (try clear hk); (try clear hi); have hz61 := cells_4 BK111.out; have hz62 := cells_4 BK101.out))
            refine bodyPost_ret (results_ct rfl _ _ gb101 26 #[.slice Ao55 x112000_1.length co55, .slice Ao56 x112001_1.length co56, .bool x112002_1, .slice Ao57 x112003_1.length co57] (0, 0) _ rfl (cl BK101.out rfl) Tryd.underlying26 rfl (by kernel_rfl)) rfl ?_
            exact ⟨_, _, _, by rfl, Kd.R_mono (rf1 HO_112000.out BK101.out (by decide)) (fun _ _ => trivial), Kd.R_mono (rf1 HO_112001.out BK101.out (by decide)) (fun _ _ => trivial), Kd.R_mono (rf1 HO_112003.out BK101.out (by decide)) (fun _ _ => trivial), bx HB.out⟩
          · rw [if_neg c52] at H
            have c52b0 : (t135.toList == a0.toList) = false := beq_eq_false_iff_ne.mpr c52
            have c52b1 : (t135.toList != a0.toList) = true := bne_iff_ne.mpr c52
            simp only [Option.some.injEq, Prod.mk.injEq] at H
            obtain ⟨rfl, rfl, rfl, rfl, rfl⟩ := H
            have hnb63 := NB111_101.out
            have hnc63 := NB101_111.out
            have hz64 := cells_4 BK111.out
            obtain ⟨Ao65, co65, eo65⟩ := Kd.R_slice HO_112000.out
            subst eo65
            obtain ⟨Ao66, co66, eo66⟩ := Kd.R_slice HO_112001.out
            subst eo66
            obtain ⟨Ao67, co67, eo67⟩ := Kd.R_slice HO_112003.out
            subst eo67
            go_wp2_with (first | ((with_reducible refine gate_callee (f := 23) rfl ?_); refine goL (some 52) rfl rfl gf23 #[.agg #[.slice Ao65 x112000_1.length co65, .slice Ao66 x112001_1.length co66, .bool x112002_1, .slice Ao67 x112003_1.length co67]] rfl rfl ?_; (with_reducible refine (impl_DeltaOk.calls k1 _ _ x112000_1 _ _ x112001_1 x112002_1 _ _ x112003_1 true _ (cx (Kd.R_reads' HO_112000.out).2.2) ((Kd.R_reads' HO_112000.out).2.1) (cx (Kd.R_reads' HO_112001.out).2.2) ((Kd.R_reads' HO_112001.out).2.1) (cx (Kd.R_reads' HO_112003.out).2.2) ((Kd.R_reads' HO_112003.out).2.1) A49.out).mono ?_); rintro e w68 ⟨rfl, hb⟩; refine ⟨_, rfl, ?_⟩; replace HO_12 := kR HO_12 hb; replace HO_112000 := kR HO_112000 hb; replace HO_112001 := kR HO_112001 hb; replace HO_112003 := kR HO_112003 hb; replace BK101 := kb BK101 hb; replace BK111 := kb BK111 hb; replace HB := kB HB hb; (try clear hb); (try clear hb2); (try clear hk); (try clear hi); have hz69 := cells_4 BK111.out) | (go_at_call 11; (with_reducible refine (impl_DeltaPut.calls k1 _ _ x112000_1 _ _ x112001_1 x112002_1 _ _ x112003_1 t135 _ (cx (Kd.R_reads' HO_112000.out).2.2) ((Kd.R_reads' HO_112000.out).2.1) (cx (Kd.R_reads' HO_112001.out).2.2) ((Kd.R_reads' HO_112001.out).2.1) (cx (Kd.R_reads' HO_112003.out).2.2) ((Kd.R_reads' HO_112003.out).2.1) A51.out).mono ?_); rintro e w70 ⟨rfl, hb⟩; replace HO_12 := kR HO_12 hb; replace HO_112000 := kR HO_112000 hb; replace HO_112001 := kR HO_112001 hb; replace HO_112003 := kR HO_112003 hb; replace BK101 := kb BK101 hb; replace BK111 := kb BK111 hb; replace HB := kB HB hb; (try clear hb); (try clear hb2); (try clear hk); (try clear hi); have hz71 := cells_4 BK101.out))
            refine bodyPost_ret (results_ct rfl _ _ gb101 26 #[.slice none 0 0, .slice none 0 0, .bool false, .slice none 0 0] (0, 0) _ rfl (cl BK101.out rfl) Tryd.underlying26 rfl (by kernel_rfl)) rfl ?_
            exact ⟨_, _, _, by rfl, by first | exact Kd.R_nil _ _ _ _ _ | exact Kd.N_nil _ _ _ _ _ | exact Kd.V_nil _ _ _ _ _ | exact Kd.Q_nil _ _ _ _ _ | exact Kd.S_nil _ _ _ _ _, by first | exact Kd.R_nil _ _ _ _ _ | exact Kd.N_nil _ _ _ _ _ | exact Kd.V_nil _ _ _ _ _ | exact Kd.Q_nil _ _ _ _ _ | exact Kd.S_nil _ _ _ _ _, by first | exact Kd.R_nil _ _ _ _ _ | exact Kd.N_nil _ _ _ _ _ | exact Kd.V_nil _ _ _ _ _ | exact Kd.Q_nil _ _ _ _ _ | exact Kd.S_nil _ _ _ _ _, bx HB.out⟩
        · replace c50 := Bool.eq_false_iff.mpr c50
          subst c50
          rw [if_neg Bool.false_ne_true] at H
          simp only [Option.some.injEq, Prod.mk.injEq] at H
          obtain ⟨rfl, rfl, rfl, rfl, rfl⟩ := H
          have hnb72 := NB111_101.out
          have hnc72 := NB101_111.out
          have hz73 := cells_4 BK111.out
          obtain ⟨Ao74, co74, eo74⟩ := Kd.R_slice HO_112000.out
          subst eo74
          obtain ⟨Ao75, co75, eo75⟩ := Kd.R_slice HO_112001.out
          subst eo75
          obtain ⟨Ao76, co76, eo76⟩ := Kd.R_slice HO_112003.out
          subst eo76
          go_wp2_with (first | ((with_reducible refine gate_callee (f := 23) rfl ?_); refine goL (some 52) rfl rfl gf23 #[.agg #[.slice Ao74 x112000_1.length co74, .slice Ao75 x112001_1.length co75, .bool x112002_1, .slice Ao76 x112003_1.length co76]] rfl rfl ?_; (with_reducible refine (impl_DeltaOk.calls k1 _ _ x112000_1 _ _ x112001_1 x112002_1 _ _ x112003_1 false _ (cx (Kd.R_reads' HO_112000.out).2.2) ((Kd.R_reads' HO_112000.out).2.1) (cx (Kd.R_reads' HO_112001.out).2.2) ((Kd.R_reads' HO_112001.out).2.1) (cx (Kd.R_reads' HO_112003.out).2.2) ((Kd.R_reads' HO_112003.out).2.1) A49.out).mono ?_); rintro e w77 ⟨rfl, hb⟩; refine ⟨_, rfl, ?_⟩; replace HO_12 := kR HO_12 hb; replace HO_112000 := kR HO_112000 hb; replace HO_112001 := kR HO_112001 hb; replace HO_112003 := kR HO_112003 hb; replace BK101 := kb BK101 hb; replace BK111 := kb BK111 hb; replace HB := kB HB hb; (try clear hb); (try clear hb2); (try clear hk); (try clear hi); have hz78 := cells_4 BK101.out))
          refine bodyPost_ret (results_ct rfl _ _ gb101 26 #[.slice none 0 0, .slice none 0 0, .bool false, .slice none 0 0] (0, 0) _ rfl (cl BK101.out rfl) Tryd.underlying26 rfl (by kernel_rfl)) rfl ?_
          exact ⟨_, _, _, by rfl, by first | exact Kd.R_nil _ _ _ _ _ | exact Kd.N_nil _ _ _ _ _ | exact Kd.V_nil _ _ _ _ _ | exact Kd.Q_nil _ _ _ _ _ | exact Kd.S_nil _ _ _ _ _, by first | exact Kd.R_nil _ _ _ _ _ | exact Kd.N_nil _ _ _ _ _ | exact Kd.V_nil _ _ _ _ _ | exact Kd.Q_nil _ _ _ _ _ | exact Kd.S_nil _ _ _ _ _, by first | exact Kd.R_nil _ _ _ _ _ | exact Kd.N_nil _ _ _ _ _ | exact Kd.V_nil _ _ _ _ _ | exact Kd.Q_nil _ _ _ _ _ | exact Kd.S_nil _ _ _ _ _, bx HB.out⟩
end Go.Proofs.YtabindnaedchgaaDoor.M
end

section
-- Printed for this claim by a program (mprint.py) that uses the kit's print; Lean checks it.
namespace Go.Proofs.YtabindnaedchgaaDoor.M
open Go.RowKit Go.Proofs.YtabindnaedchgaaDoorW.PrintWords Go.Proofs.YtabindnaedchgaaDoorW.PrintLast Go.Proofs.YtabindnaedchgaaDoorW.PrintMore Go.Proofs.YtabindnaedchgaaDoor.Sq
set_option synthInstance.maxHeartbeats 2000000
set_option synthInstance.maxSize 4096
attribute [local go_sem] max2_int min2_int max_two min_two max_three min_three max_four min_four   -- for this text's walks alone
set_option linter.unusedVariables false
set_option linter.unusedSimpArgs false
mutual
def laws_FnExactDeltaGet.j0 : Nat → ByteArray → Bool → Bool → List ByteArray → List (S43) → Bool → List (S46) → List ByteArray → List (S43) → Bool → List (S46) → Option (Bool)
  | 0, _, _, _, _, _, _, _, _, _, _, _ => none
  | k + 1, x0, x4, x32, x113000, x113001, x113002, x113003, x125000, x125001, x125002, x125003 => if x32 = true then (some false) else ((laws_markDelta.f k x125000 x125001 x125002 x125003 1).bind fun bt126 => ((laws_heldDelta.f k bt126.2.1 bt126.2.2.1 x125002 bt126.2.2.2 1).bind fun t130 => (if t130 < 0 then (some false) else (if t130 = bt126.1 then ((impl_DeltaGet.f k x0).bind fun bt131 => ((laws_eqDelta.f k bt131.1 bt131.2.1 bt131.2.2.1 bt131.2.2.2.1 x113000 x113001 x113002 x113003).bind fun t143 => (if t143 = true then (laws_FnExactDeltaGet.j1 k bt126.1 (bt131.2.2.2.2 != x4) bt126.2.1 bt126.2.2.1 x125002 bt126.2.2.2) else (laws_FnExactDeltaGet.j1 k bt126.1 true bt126.2.1 bt126.2.2.1 x125002 bt126.2.2.2)))) else (some false)))))
def laws_FnExactDeltaGet.j1 : Nat → Int → Bool → List ByteArray → List (S43) → Bool → List (S46) → Option (Bool)
  | 0, _, _, _, _, _, _ => none
  | k + 1, x7, x57, x125000, x125001, x125002, x125003 => if x57 = true then (some false) else ((laws_heldDelta.f k x125000 x125001 x125002 x125003 1).bind fun t144 => (if t144 < 0 then (some false) else (if t144 = x7 then (some true) else (some false))))
end
def laws_FnExactDeltaGet.f (k : Nat) (a0 : ByteArray) : Option (Bool) := if (a0.size : Int) > 1048576 then (some true) else ((spec_DeltaGet.f k a0).bind fun bt101 => ((impl_DeltaGet.f k a0).bind fun bt113 => ((laws_eqDelta.f k bt113.1 bt113.2.1 bt113.2.2.1 bt113.2.2.2.1 bt101.1 bt101.2.1 bt101.2.2.1 bt101.2.2.2.1).bind fun t125 => (if t125 = true then (laws_FnExactDeltaGet.j0 k a0 bt101.2.2.2.2 (bt113.2.2.2.2 != bt101.2.2.2.2) bt101.1 bt101.2.1 bt101.2.2.1 bt101.2.2.2.1 bt113.1 bt113.2.1 bt113.2.2.1 bt113.2.2.2.1) else (laws_FnExactDeltaGet.j0 k a0 bt101.2.2.2.2 true bt101.1 bt101.2.1 bt101.2.2.1 bt101.2.2.2.1 bt113.1 bt113.2.1 bt113.2.2.1 bt113.2.2.2.1)))))
theorem laws_FnExactDeltaGet.mono_l : ∀ k, (∀ y0 y1 y2 y3 y4 y5 y6 y7 y8 y9 y10, LeO (laws_FnExactDeltaGet.j0 k y0 y1 y2 y3 y4 y5 y6 y7 y8 y9 y10) (laws_FnExactDeltaGet.j0 (k + 1) y0 y1 y2 y3 y4 y5 y6 y7 y8 y9 y10)) ∧ (∀ y0 y1 y2 y3 y4 y5, LeO (laws_FnExactDeltaGet.j1 k y0 y1 y2 y3 y4 y5) (laws_FnExactDeltaGet.j1 (k + 1) y0 y1 y2 y3 y4 y5))
  | 0 => ⟨fun _ _ _ _ _ _ _ _ _ _ _ r h => by simp [laws_FnExactDeltaGet.j0] at h, fun _ _ _ _ _ _ r h => by simp [laws_FnExactDeltaGet.j1] at h⟩
  | k + 1 => by
    obtain ⟨ih0, ih1⟩ := laws_FnExactDeltaGet.mono_l k
    refine ⟨?_, ?_⟩
    · intro y0 y1 y2 y3 y4 y5 y6 y7 y8 y9 y10
      unfold laws_FnExactDeltaGet.j0
      have I0_ := fun x0_ x1_ x2_ x3_ x4_ x5_ x6_ x7_ x8_ x9_ x10_ => LeC.mk (ih0 x0_ x1_ x2_ x3_ x4_ x5_ x6_ x7_ x8_ x9_ x10_)
      have I1_ := fun x0_ x1_ x2_ x3_ x4_ x5_ => LeC.mk (ih1 x0_ x1_ x2_ x3_ x4_ x5_)
      have I2_ := fun x0_ x1_ => LeC.mk (impl_DeltaGet.mono x0_ x1_)
      have I3_ := fun x0_ x1_ x2_ x3_ x4_ x5_ x6_ x7_ x8_ => LeC.mk (laws_eqDelta.mono x0_ x1_ x2_ x3_ x4_ x5_ x6_ x7_ x8_)
      have I4_ := fun x0_ x1_ x2_ x3_ x4_ x5_ => LeC.mk (laws_heldDelta.mono x0_ x1_ x2_ x3_ x4_ x5_)
      have I5_ := fun x0_ x1_ x2_ x3_ x4_ x5_ => LeC.mk (laws_markDelta.mono x0_ x1_ x2_ x3_ x4_ x5_)
      have I6_ := fun x0_ x1_ => LeC.mk (spec_DeltaGet.mono x0_ x1_)
      exact LeC.out
    · intro y0 y1 y2 y3 y4 y5
      unfold laws_FnExactDeltaGet.j1
      have I0_ := fun x0_ x1_ x2_ x3_ x4_ x5_ x6_ x7_ x8_ x9_ x10_ => LeC.mk (ih0 x0_ x1_ x2_ x3_ x4_ x5_ x6_ x7_ x8_ x9_ x10_)
      have I1_ := fun x0_ x1_ x2_ x3_ x4_ x5_ => LeC.mk (ih1 x0_ x1_ x2_ x3_ x4_ x5_)
      have I2_ := fun x0_ x1_ => LeC.mk (impl_DeltaGet.mono x0_ x1_)
      have I3_ := fun x0_ x1_ x2_ x3_ x4_ x5_ x6_ x7_ x8_ => LeC.mk (laws_eqDelta.mono x0_ x1_ x2_ x3_ x4_ x5_ x6_ x7_ x8_)
      have I4_ := fun x0_ x1_ x2_ x3_ x4_ x5_ => LeC.mk (laws_heldDelta.mono x0_ x1_ x2_ x3_ x4_ x5_)
      have I5_ := fun x0_ x1_ x2_ x3_ x4_ x5_ => LeC.mk (laws_markDelta.mono x0_ x1_ x2_ x3_ x4_ x5_)
      have I6_ := fun x0_ x1_ => LeC.mk (spec_DeltaGet.mono x0_ x1_)
      exact LeC.out
theorem laws_FnExactDeltaGet.mono : ∀ a0 k, LeO (laws_FnExactDeltaGet.f k a0) (laws_FnExactDeltaGet.f (k + 1) a0) := by
  intro a0 k
  obtain ⟨ih0, ih1⟩ := laws_FnExactDeltaGet.mono_l k
  unfold laws_FnExactDeltaGet.f
  have I0_ := fun x0_ x1_ x2_ x3_ x4_ x5_ x6_ x7_ x8_ x9_ x10_ => LeC.mk (ih0 x0_ x1_ x2_ x3_ x4_ x5_ x6_ x7_ x8_ x9_ x10_)
  have I1_ := fun x0_ x1_ x2_ x3_ x4_ x5_ => LeC.mk (ih1 x0_ x1_ x2_ x3_ x4_ x5_)
  have I2_ := fun x0_ x1_ => LeC.mk (impl_DeltaGet.mono x0_ x1_)
  have I3_ := fun x0_ x1_ x2_ x3_ x4_ x5_ x6_ x7_ x8_ => LeC.mk (laws_eqDelta.mono x0_ x1_ x2_ x3_ x4_ x5_ x6_ x7_ x8_)
  have I4_ := fun x0_ x1_ x2_ x3_ x4_ x5_ => LeC.mk (laws_heldDelta.mono x0_ x1_ x2_ x3_ x4_ x5_)
  have I5_ := fun x0_ x1_ x2_ x3_ x4_ x5_ => LeC.mk (laws_markDelta.mono x0_ x1_ x2_ x3_ x4_ x5_)
  have I6_ := fun x0_ x1_ => LeC.mk (spec_DeltaGet.mono x0_ x1_)
  exact LeC.out
set_option maxHeartbeats 8000000 in
set_option maxRecDepth 100000 in
theorem laws_FnExactDeltaGet.calls (k : Nat) (a0 : ByteArray) (r : Bool) (w : World) (hT : r = true) (hGm : GWm w) (h : laws_FnExactDeltaGet.f k a0 = some r) :
    Calls Tryd.prog 3 #[.string a0] w fun e w' => e = .returned (.bool r) ∧ Below w.heap.size w w' := by
  have hu26 := Tryd.underlying26
  have HT := Aside0.mk hT
  clear hT
  have HGWm := Aside0.mk hGm
  clear hGm
  have HB := Aside0.mk (Below.refl w.heap.size w)
  unfold laws_FnExactDeltaGet.f at h
  have H := h
  clear h
  by_cases c2 : (a0.size : Int) > 1048576
  · rw [if_pos c2] at H
    have c2b0 : decide (1048576 < (a0.size : Int)) = true := decide_eq_true c2
    have c2b1 : decide (1048576 < a0.size) = true := decide_eq_true (by omega)
    clear c2
    obtain rfl := Option.some.inj H
    go_enter Tryd.func3, Tryd.ntmps3
    go_wp2
    go_ret
    exact ⟨by rfl, bx HB.out⟩
  · rw [if_neg c2] at H
    have c2b0 : decide (1048576 < (a0.size : Int)) = false := decide_eq_false c2
    have c2b1 : decide (1048576 < a0.size) = false := decide_eq_false (by omega)
    clear c2
    replace H := Option.bind_eq_some_iff.mp H
    obtain ⟨⟨t101, t104, t107, t108, t111⟩, A30, H⟩ := H
    replace H : ((impl_DeltaGet.f k a0).bind fun bt113 => ((laws_eqDelta.f k bt113.1 bt113.2.1 bt113.2.2.1 bt113.2.2.2.1 t101 t104 t107 t108).bind fun t125 => (if t125 = true then (laws_FnExactDeltaGet.j0 k a0 t111 (bt113.2.2.2.2 != t111) t101 t104 t107 t108 bt113.1 bt113.2.1 bt113.2.2.1 bt113.2.2.2.1) else (laws_FnExactDeltaGet.j0 k a0 t111 true t101 t104 t107 t108 bt113.1 bt113.2.1 bt113.2.2.1 bt113.2.2.2.1)))) = some r := H
    have A3 := Aside0.mk A30
    clear A30
    replace H := Option.bind_eq_some_iff.mp H
    obtain ⟨⟨t113, t116, t119, t120, t123⟩, A40, H⟩ := H
    replace H : ((laws_eqDelta.f k t113 t116 t119 t120 t101 t104 t107 t108).bind fun t125 => (if t125 = true then (laws_FnExactDeltaGet.j0 k a0 t111 (t123 != t111) t101 t104 t107 t108 t113 t116 t119 t120) else (laws_FnExactDeltaGet.j0 k a0 t111 true t101 t104 t107 t108 t113 t116 t119 t120))) = some r := H
    have A4 := Aside0.mk A40
    clear A40
    have HC5 := Aside0.mk H
    clear H
    go_enter Tryd.func3, Tryd.ntmps3
    go_upto_region 5 with (first | ((with_reducible refine gate_callee (f := 5) rfl ?_); refine goL (some 16) rfl rfl gf5 #[.string a0] rfl rfl ?_; (with_reducible refine (spec_DeltaGet.calls k a0 t101 t104 t107 t108 t111 _ A3.out).mono ?_); rintro e w6 ⟨v102, v105, v109, rfl, ho0, ho1, ho2, hb⟩; refine ⟨_, rfl, ?_⟩; have HO103 := Aside0.mk (Kd.R_lower ho0 (bz HB.out)); have HO106 := Aside0.mk (Kd.R_lower ho1 (bz HB.out)); have HO110 := Aside0.mk (Kd.R_lower ho2 (bz HB.out)); replace HB := kB HB hb; (try clear hb); (try clear hb2); (try clear hk); (try clear hi); (try clear ho0); (try clear ho1); (try clear ho2)) | ((with_reducible refine gate_dst (N := 3) rfl ?_); refine box_event rfl (N := 3) rfl (cs := #[.slice none 0 0, .slice none 0 0, .bool false, .slice none 0 0]) (t := 26) (by go_simp <;> rfl) ?_; intro gb112 hg w7 hbox hb; replace HO103 := kR HO103 hb; replace HO106 := kR HO106 hb; replace HO110 := kR HO110 hb; have BK112 := Aside0.mk (hbox); have GW112 := Le_.mk (ge_of hg HB.out); have GE112 := Le_.mk (ge_of hg HB.out); replace HB := kB HB hb; clear hb hbox hg; obtain ⟨Ao8, co8, eo8⟩ := Kd.R_slice HO103.out; subst eo8; have hz9 := cells_4 BK112.out; obtain ⟨Ao10, co10, eo10⟩ := Kd.R_slice HO106.out; subst eo10; obtain ⟨Ao11, co11, eo11⟩ := Kd.R_slice HO110.out; subst eo11) | ((with_reducible refine gate_callee (f := 6) rfl ?_); refine goL (some 21) rfl rfl gf6 #[.string a0] rfl rfl ?_; (with_reducible refine (impl_DeltaGet.calls k a0 t113 t116 t119 t120 t123 _ (GWm.below HGWm.out (bx HB.out)) A4.out).mono ?_); rintro e w12 ⟨v114, v117, v121, rfl, ho0, ho1, ho2, hb⟩; refine ⟨_, rfl, ?_⟩; have HO115 := Aside0.mk (Kd.R_lower (Kd.R_new' ho0 (Kd.R_lt (rf1 HO103.out BK112.out (by decide)))) (bz HB.out)); replace HO103 := Aside0.mk (Kd.R_elder' (rf1 HO103.out BK112.out (by decide)) (Kd.R_base ho0) hb); have HO118 := Aside0.mk (Kd.R_lower (Kd.R_new' ho1 (Kd.R_lt (rf1 HO106.out BK112.out (by decide)))) (bz HB.out)); replace HO106 := Aside0.mk (Kd.R_elder' (rf1 HO106.out BK112.out (by decide)) (Kd.R_base ho1) hb); have HO122 := Aside0.mk (Kd.R_lower (Kd.R_new' ho2 (Kd.R_lt (rf1 HO110.out BK112.out (by decide)))) (bz HB.out)); replace HO110 := Aside0.mk (Kd.R_elder' (rf1 HO110.out BK112.out (by decide)) (Kd.R_base ho2) hb); replace BK112 := Aside0.mk (blk_below (g := gb112) (o := .cells #[.slice Ao8 t101.length co8, .slice Ao10 t104.length co10, .bool t107, .slice Ao11 t108.length co11] 26 (0, 0)) (cl BK112.out rfl) hb); replace HB := kB HB hb; (try clear hb); (try clear hb2); (try clear hk); (try clear hi); (try clear ho0); (try clear ho1); (try clear ho2)) | ((with_reducible refine gate_dst (N := 5) rfl ?_); refine box_event rfl (N := 5) rfl (cs := #[.slice none 0 0, .slice none 0 0, .bool false, .slice none 0 0]) (t := 26) (by go_simp <;> rfl) ?_; intro gb124 hg w13 hbox hb; replace HO103 := kR HO103 hb; replace HO106 := kR HO106 hb; replace HO110 := kR HO110 hb; replace HO115 := kR HO115 hb; replace HO118 := kR HO118 hb; replace HO122 := kR HO122 hb; have BK124 := Aside0.mk (hbox); have GW124 := Le_.mk (ge_of hg HB.out); have GE124 := Le_.mk (ge_of hg HB.out); replace HB := kB HB hb; have NB112_124 := Ne_.mk ((by rw [hg]; exact Nat.ne_of_lt (blk_lt (gx (BK112.out))) : gb112 ≠ gb124)); have NB124_112 := Ne_.mk ((by rw [hg]; exact Nat.ne_of_gt (blk_lt (gx (BK112.out))) : gb124 ≠ gb112)); replace BK112 := kb BK112 hb; clear hb hbox hg; obtain ⟨Ao14, co14, eo14⟩ := Kd.R_slice HO115.out; subst eo14; have hnb15 := NB124_112.out; have hnc15 := NB112_124.out; have hz16 := cells_4 BK124.out; obtain ⟨Ao17, co17, eo17⟩ := Kd.R_slice HO118.out; subst eo17; obtain ⟨Ao18, co18, eo18⟩ := Kd.R_slice HO122.out; subst eo18))
    (try simp only [Act.put, List.setIfInBounds_toArray, List.set_cons_zero, List.set_cons_succ])
    go_cut [32] (fun v32 wc => ∃ (kq : Nat) (x32_4 : Bool), v32 = .bool x32_4 ∧ Aside0 (laws_FnExactDeltaGet.j0 kq a0 t111 x32_4 t101 t104 t107 t108 t113 t116 t119 t120 = some r) ∧ Aside0 (kq ≤ k) ∧ Aside0 (Kd.R Kd.string 9 wc w.heap.size (fun k_ => some k_ ≠ ((.slice Ao14 t113.length co14) : Value).ownBlock) (.slice Ao8 t101.length co8) t101) ∧ Aside0 (Kd.R k43 43 wc w.heap.size (fun k_ => some k_ ≠ ((.slice Ao17 t116.length co17) : Value).ownBlock) (.slice Ao10 t104.length co10) t104) ∧ Aside0 (Kd.R k46 46 wc w.heap.size (fun k_ => some k_ ≠ ((.slice Ao18 t120.length co18) : Value).ownBlock) (.slice Ao11 t108.length co11) t108) ∧ Aside0 (Kd.R Kd.string 9 wc w.heap.size (fun k_ => some k_ ≠ ((.slice Ao8 t101.length co8) : Value).ownBlock) (.slice Ao14 t113.length co14) t113) ∧ Aside0 (Kd.R k43 43 wc w.heap.size (fun k_ => some k_ ≠ ((.slice Ao10 t104.length co10) : Value).ownBlock) (.slice Ao17 t116.length co17) t116) ∧ Aside0 (Kd.R k46 46 wc w.heap.size (fun k_ => some k_ ≠ ((.slice Ao11 t108.length co11) : Value).ownBlock) (.slice Ao18 t120.length co18) t120) ∧ Aside0 (wc.heap[gb112]? = some (.cells #[(.slice Ao8 t101.length co8), (.slice Ao10 t104.length co10), .bool t107, (.slice Ao11 t108.length co11)] 26 (0, 0))) ∧ Aside0 (wc.heap[gb124]? = some (.cells #[(.slice Ao14 t113.length co14), (.slice Ao17 t116.length co17), .bool t119, (.slice Ao18 t120.length co18)] 26 (0, 0))) ∧ Aside0 (Below w.heap.size w wc))
    case first =>
      have H := HC5.out
      clear HC5
      replace H := Option.bind_eq_some_iff.mp H
      obtain ⟨t125, A190, H⟩ := H
      have A19 := Aside0.mk A190
      clear A190
      by_cases c20 : t125 = true
      · subst c20
        rw [if_pos rfl] at H
        have H' := Aside0.mk H
        clear H
        have hnb21 := NB124_112.out
        have hnc21 := NB112_124.out
        have hz22 := cells_4 BK124.out
        have hz23 := cells_4 BK112.out
        go_wp2_with (first | ((with_reducible refine gate_callee (f := 7) rfl ?_); refine goL (some 26) rfl rfl gf7 #[.agg #[.slice Ao14 t113.length co14, .slice Ao17 t116.length co17, .bool t119, .slice Ao18 t120.length co18], .agg #[.slice Ao8 t101.length co8, .slice Ao10 t104.length co10, .bool t107, .slice Ao11 t108.length co11]] rfl rfl ?_; (with_reducible refine (laws_eqDelta.calls k _ _ t113 _ _ t116 t119 _ _ t120 _ _ t101 _ _ t104 t107 _ _ t108 true _ ?side1 ?side2 ?side3 ?side4 ?side5 ?side6 ?side7 ?side8 ?side9 ?side10 ?side11 ?side12 A19.out).mono ?_); (case side1 => refine (Kd.R_reads' (e := 9) (base := w.heap.size) (ok := fun k_ => (True ∧ some k_ ≠ (.slice Ao8 t101.length co8 : Value).ownBlock)) (n := t113.length) (c := co14) ?_).2.2; exact (rf1 HO115.out BK124.out (by decide))); (case side2 => exact (Kd.R_reads' HO115.out).2.1); (case side3 => refine (Kd.R_reads' (e := 43) (base := w.heap.size) (ok := fun k_ => (True ∧ some k_ ≠ (.slice Ao10 t104.length co10 : Value).ownBlock)) (n := t116.length) (c := co17) ?_).2.2; exact (rf1 HO118.out BK124.out (by decide))); (case side4 => exact (Kd.R_reads' HO118.out).2.1); (case side5 => refine (Kd.R_reads' (e := 46) (base := w.heap.size) (ok := fun k_ => (True ∧ some k_ ≠ (.slice Ao11 t108.length co11 : Value).ownBlock)) (n := t120.length) (c := co18) ?_).2.2; exact (rf1 HO122.out BK124.out (by decide))); (case side6 => exact (Kd.R_reads' HO122.out).2.1); (case side7 => refine (Kd.R_reads' (e := 9) (base := w.heap.size) (ok := fun k_ => (True ∧ some k_ ≠ (.slice Ao14 t113.length co14 : Value).ownBlock)) (n := t101.length) (c := co8) ?_).2.2; exact (rf1 HO103.out BK124.out (by decide))); (case side8 => exact (Kd.R_reads' HO103.out).2.1); (case side9 => refine (Kd.R_reads' (e := 43) (base := w.heap.size) (ok := fun k_ => (True ∧ some k_ ≠ (.slice Ao17 t116.length co17 : Value).ownBlock)) (n := t104.length) (c := co10) ?_).2.2; exact (rf1 HO106.out BK124.out (by decide))); (case side10 => exact (Kd.R_reads' HO106.out).2.1); (case side11 => refine (Kd.R_reads' (e := 46) (base := w.heap.size) (ok := fun k_ => (True ∧ some k_ ≠ (.slice Ao18 t120.length co18 : Value).ownBlock)) (n := t108.length) (c := co11) ?_).2.2; exact (rf1 HO110.out BK124.out (by decide))); (case side12 => exact (Kd.R_reads' HO110.out).2.1); rintro e w24 ⟨rfl, hb⟩; refine ⟨_, rfl, ?_⟩; replace HO103 := Aside0.mk (Kd.R_below (rf1 HO103.out BK124.out (by decide)) hb); replace HO106 := Aside0.mk (Kd.R_below (rf1 HO106.out BK124.out (by decide)) hb); replace HO110 := Aside0.mk (Kd.R_below (rf1 HO110.out BK124.out (by decide)) hb); replace HO115 := Aside0.mk (Kd.R_below (rf1 HO115.out BK124.out (by decide)) hb); replace HO118 := Aside0.mk (Kd.R_below (rf1 HO118.out BK124.out (by decide)) hb); replace HO122 := Aside0.mk (Kd.R_below (rf1 HO122.out BK124.out (by decide)) hb); replace BK112 := Aside0.mk (blk_below (g := gb112) (o := .cells #[.slice Ao8 t101.length co8, .slice Ao10 t104.length co10, .bool t107, .slice Ao11 t108.length co11] 26 (0, 0)) (cl BK112.out rfl) hb); replace BK124 := Aside0.mk (blk_below (g := gb124) (o := .cells #[.slice Ao14 t113.length co14, .slice Ao17 t116.length co17, .bool t119, .slice Ao18 t120.length co18] 26 (0, 0)) (cl BK124.out rfl) hb); replace HB := kB HB hb; (try clear hb); (try clear hb2); (try clear hk); (try clear hi)))
        go_meet
        case rel => exact ⟨_, ((t123 != t111)), (by first | rfl | (simp; done) | (simp [*]; done)), H', ⟨by first | omega | exact Nat.le_refl _⟩, ⟨rx (Kd.R_mono HO103.out (fun _ hk => hk.2))⟩, ⟨rx (Kd.R_mono HO106.out (fun _ hk => hk.2))⟩, ⟨rx (Kd.R_mono HO110.out (fun _ hk => hk.2))⟩, ⟨rx (Kd.R_mono HO115.out (fun _ hk => hk.2))⟩, ⟨rx (Kd.R_mono HO118.out (fun _ hk => hk.2))⟩, ⟨rx (Kd.R_mono HO122.out (fun _ hk => hk.2))⟩, ⟨gx (BK112.out)⟩, ⟨gx (BK124.out)⟩, ⟨bx HB.out⟩⟩
      · replace c20 := Bool.eq_false_iff.mpr c20
        subst c20
        rw [if_neg Bool.false_ne_true] at H
        have H' := Aside0.mk H
        clear H
        have hnb25 := NB124_112.out
        have hnc25 := NB112_124.out
        have hz26 := cells_4 BK124.out
        have hz27 := cells_4 BK112.out
        go_wp2_with (first | ((with_reducible refine gate_callee (f := 7) rfl ?_); refine goL (some 26) rfl rfl gf7 #[.agg #[.slice Ao14 t113.length co14, .slice Ao17 t116.length co17, .bool t119, .slice Ao18 t120.length co18], .agg #[.slice Ao8 t101.length co8, .slice Ao10 t104.length co10, .bool t107, .slice Ao11 t108.length co11]] rfl rfl ?_; (with_reducible refine (laws_eqDelta.calls k _ _ t113 _ _ t116 t119 _ _ t120 _ _ t101 _ _ t104 t107 _ _ t108 false _ ?side1 ?side2 ?side3 ?side4 ?side5 ?side6 ?side7 ?side8 ?side9 ?side10 ?side11 ?side12 A19.out).mono ?_); (case side1 => refine (Kd.R_reads' (e := 9) (base := w.heap.size) (ok := fun k_ => (True ∧ some k_ ≠ (.slice Ao8 t101.length co8 : Value).ownBlock)) (n := t113.length) (c := co14) ?_).2.2; exact (rf1 HO115.out BK124.out (by decide))); (case side2 => exact (Kd.R_reads' HO115.out).2.1); (case side3 => refine (Kd.R_reads' (e := 43) (base := w.heap.size) (ok := fun k_ => (True ∧ some k_ ≠ (.slice Ao10 t104.length co10 : Value).ownBlock)) (n := t116.length) (c := co17) ?_).2.2; exact (rf1 HO118.out BK124.out (by decide))); (case side4 => exact (Kd.R_reads' HO118.out).2.1); (case side5 => refine (Kd.R_reads' (e := 46) (base := w.heap.size) (ok := fun k_ => (True ∧ some k_ ≠ (.slice Ao11 t108.length co11 : Value).ownBlock)) (n := t120.length) (c := co18) ?_).2.2; exact (rf1 HO122.out BK124.out (by decide))); (case side6 => exact (Kd.R_reads' HO122.out).2.1); (case side7 => refine (Kd.R_reads' (e := 9) (base := w.heap.size) (ok := fun k_ => (True ∧ some k_ ≠ (.slice Ao14 t113.length co14 : Value).ownBlock)) (n := t101.length) (c := co8) ?_).2.2; exact (rf1 HO103.out BK124.out (by decide))); (case side8 => exact (Kd.R_reads' HO103.out).2.1); (case side9 => refine (Kd.R_reads' (e := 43) (base := w.heap.size) (ok := fun k_ => (True ∧ some k_ ≠ (.slice Ao17 t116.length co17 : Value).ownBlock)) (n := t104.length) (c := co10) ?_).2.2; exact (rf1 HO106.out BK124.out (by decide))); (case side10 => exact (Kd.R_reads' HO106.out).2.1); (case side11 => refine (Kd.R_reads' (e := 46) (base := w.heap.size) (ok := fun k_ => (True ∧ some k_ ≠ (.slice Ao18 t120.length co18 : Value).ownBlock)) (n := t108.length) (c := co11) ?_).2.2; exact (rf1 HO110.out BK124.out (by decide))); (case side12 => exact (Kd.R_reads' HO110.out).2.1); rintro e w28 ⟨rfl, hb⟩; refine ⟨_, rfl, ?_⟩; replace HO103 := Aside0.mk (Kd.R_below (rf1 HO103.out BK124.out (by decide)) hb); replace HO106 := Aside0.mk (Kd.R_below (rf1 HO106.out BK124.out (by decide)) hb); replace HO110 := Aside0.mk (Kd.R_below (rf1 HO110.out BK124.out (by decide)) hb); replace HO115 := Aside0.mk (Kd.R_below (rf1 HO115.out BK124.out (by decide)) hb); replace HO118 := Aside0.mk (Kd.R_below (rf1 HO118.out BK124.out (by decide)) hb); replace HO122 := Aside0.mk (Kd.R_below (rf1 HO122.out BK124.out (by decide)) hb); replace BK112 := Aside0.mk (blk_below (g := gb112) (o := .cells #[.slice Ao8 t101.length co8, .slice Ao10 t104.length co10, .bool t107, .slice Ao11 t108.length co11] 26 (0, 0)) (cl BK112.out rfl) hb); replace BK124 := Aside0.mk (blk_below (g := gb124) (o := .cells #[.slice Ao14 t113.length co14, .slice Ao17 t116.length co17, .bool t119, .slice Ao18 t120.length co18] 26 (0, 0)) (cl BK124.out rfl) hb); replace HB := kB HB hb; (try clear hb); (try clear hb2); (try clear hk); (try clear hi)))
        go_meet
        case rel => exact ⟨_, (true), (by first | rfl | (simp; done) | (simp [*]; done)), H', ⟨by first | omega | exact Nat.le_refl _⟩, ⟨rx (Kd.R_mono HO103.out (fun _ hk => hk.2))⟩, ⟨rx (Kd.R_mono HO106.out (fun _ hk => hk.2))⟩, ⟨rx (Kd.R_mono HO110.out (fun _ hk => hk.2))⟩, ⟨rx (Kd.R_mono HO115.out (fun _ hk => hk.2))⟩, ⟨rx (Kd.R_mono HO118.out (fun _ hk => hk.2))⟩, ⟨rx (Kd.R_mono HO122.out (fun _ hk => hk.2))⟩, ⟨gx (BK112.out)⟩, ⟨gx (BK124.out)⟩, ⟨bx HB.out⟩⟩
    case rest =>
      clear HC5
      try clear c1
      try clear c2
      try clear c2b0
      try clear c2b1
      try clear p2
      try clear c3
      try clear c5
      try clear c6
      try clear c7
      try clear c15
      try clear c20
      try clear c21
      try clear c25
      try clear hz16
      try clear hz22
      try clear hz23
      try clear hz26
      try clear hz27
      try clear hz9
      obtain ⟨kq, x32_4, rfl, HA, HJ4, HO_113000, HO_113001, HO_113003, HO_125000, HO_125001, HO_125003, BK112, BK124, HB⟩ := hcut
      cases kq with
      | zero => exact absurd HA.out (by simp [laws_FnExactDeltaGet.j0])
      | succ kj4 =>
        have H := HA.out
        clear HA
        simp only [laws_FnExactDeltaGet.j0] at H
        by_cases c29 : x32_4 = true
        · subst c29
          rw [if_pos rfl] at H
          exact absurd (Option.some.inj H) (by rw [HT.out]; decide)
        · replace c29 := Bool.eq_false_iff.mpr c29
          subst c29
          rw [if_neg Bool.false_ne_true] at H
          replace H := Option.bind_eq_some_iff.mp H
          obtain ⟨⟨t126, t127, t128, t129⟩, A300, H⟩ := H
          replace H : ((laws_heldDelta.f kj4 t127 t128 t119 t129 1).bind fun t130 => (if t130 < 0 then (some false) else (if t130 = t126 then ((impl_DeltaGet.f kj4 a0).bind fun bt131 => ((laws_eqDelta.f kj4 bt131.1 bt131.2.1 bt131.2.2.1 bt131.2.2.2.1 t101 t104 t107 t108).bind fun t143 => (if t143 = true then (laws_FnExactDeltaGet.j1 kj4 t126 (bt131.2.2.2.2 != t111) t127 t128 t119 t129) else (laws_FnExactDeltaGet.j1 kj4 t126 true t127 t128 t119 t129)))) else (some false)))) = some r := H
          have A30 := Aside0.mk A300
          clear A300
          replace H := Option.bind_eq_some_iff.mp H
          obtain ⟨t130, A310, H⟩ := H
          have A31 := Aside0.mk A310
          clear A310
          by_cases c32 : t130 < 0
          · rw [if_pos c32] at H
            have c32b0 := decide_eq_true c32
            clear c32
            exact absurd (Option.some.inj H) (by rw [HT.out]; decide)
          · rw [if_neg c32] at H
            have c32b0 := decide_eq_false c32
            clear c32
            by_cases c33 : t130 = t126
            · rw [if_pos c33] at H
              have c33b0 : (t130 == t126) = true := beq_iff_eq.mpr c33
              have c33b1 : (t130 != t126) = false := bne_eq_false_iff_eq.mpr c33
              clear c33
              replace H := Option.bind_eq_some_iff.mp H
              obtain ⟨⟨t131, t134, t137, t138, t141⟩, A340, H⟩ := H
              replace H : ((laws_eqDelta.f kj4 t131 t134 t137 t138 t101 t104 t107 t108).bind fun t143 => (if t143 = true then (laws_FnExactDeltaGet.j1 kj4 t126 (t141 != t111) t127 t128 t119 t129) else (laws_FnExactDeltaGet.j1 kj4 t126 true t127 t128 t119 t129))) = some r := H
              have A34 := Aside0.mk A340
              clear A340
              have HC35 := Aside0.mk H
              clear H
              have hnb36 := NB124_112.out
              have hnc36 := NB112_124.out
              have hz37 := cells_4 BK124.out
              go_upto_region 16 with (first | ((with_reducible refine gate_callee (f := 8) rfl ?_); refine goL (some 35) rfl rfl gf8 #[.agg #[.slice Ao14 t113.length co14, .slice Ao17 t116.length co17, .bool t119, .slice Ao18 t120.length co18], .int .i64 1] rfl rfl ?_; (with_reducible refine (laws_markDelta.calls kj4 (fun k_ => some k_ = (.slice Ao14 t113.length co14 : Value).ownBlock) (.slice Ao14 t113.length co14) t113 (fun k_ => some k_ = (.slice Ao17 t116.length co17 : Value).ownBlock) (.slice Ao17 t116.length co17) t116 t119 (fun k_ => some k_ = (.slice Ao18 t120.length co18 : Value).ownBlock) (.slice Ao18 t120.length co18) t120 1 t126 t127 t128 t129 w _ (bx HB.out) (Kd.R_tight rfl HO_125000.out) (Kd.R_tight rfl HO_125001.out) (Kd.R_tight rfl HO_125003.out) A30.out).mono ?_); rintro e w38 ⟨rfl, hy0, hy1, hy2, hb, hkp⟩; refine ⟨_, rfl, ?_⟩; replace HO_113000 := Aside0.mk (Kd.R_mono (ok' := fun k_ => some k_ ≠ (.slice Ao14 t113.length co14 : Value).ownBlock) (Kd.R_keptB ((Kd.R_apart' (Kd.R_apart' HO_113000.out (Kd.R_typed HO_125001.out) (by decide)) (Kd.R_typed HO_125003.out) (by decide))) hkp (fun k_ hk_ hs_ => Or.elim hs_ (fun e_ => (hk_.1.1) e_) (fun e_ => Or.elim e_ (fun e_ => (hk_.1.2) e_) (fun e_ => (hk_.2) e_)))) (fun k_ hk_ => hk_.1.1.1)); replace HO_113001 := Aside0.mk (Kd.R_mono (ok' := fun k_ => some k_ ≠ (.slice Ao17 t116.length co17 : Value).ownBlock) (Kd.R_keptB ((Kd.R_apart' (Kd.R_apart' HO_113001.out (Kd.R_typed HO_125000.out) (by decide)) (Kd.R_typed HO_125003.out) (by decide))) hkp (fun k_ hk_ hs_ => Or.elim hs_ (fun e_ => (hk_.1.2) e_) (fun e_ => Or.elim e_ (fun e_ => (hk_.1.1) e_) (fun e_ => (hk_.2) e_)))) (fun k_ hk_ => hk_.1.1.1)); replace HO_113003 := Aside0.mk (Kd.R_mono (ok' := fun k_ => some k_ ≠ (.slice Ao18 t120.length co18 : Value).ownBlock) (Kd.R_keptB ((Kd.R_apart' (Kd.R_apart' HO_113003.out (Kd.R_typed HO_125000.out) (by decide)) (Kd.R_typed HO_125001.out) (by decide))) hkp (fun k_ hk_ hs_ => Or.elim hs_ (fun e_ => (hk_.1.2) e_) (fun e_ => Or.elim e_ (fun e_ => (hk_.2) e_) (fun e_ => (hk_.1.1) e_)))) (fun k_ hk_ => hk_.1.1.1)); replace BK112 := Aside0.mk (blk_kept (gx (BK112.out)) hkp (fun hs_ => Or.elim hs_ (fun e_ => (fun e_ => (Kd.R_ne HO_125000.out BK112.out (by decide)) e_) e_) (fun e_ => Or.elim e_ (fun e_ => (fun e_ => (Kd.R_ne HO_125001.out BK112.out (by decide)) e_) e_) (fun e_ => (fun e_ => (Kd.R_ne HO_125003.out BK112.out (by decide)) e_) e_)))); replace BK124 := Aside0.mk (blk_kept (gx (BK124.out)) hkp (fun hs_ => Or.elim hs_ (fun e_ => (fun e_ => (Kd.R_ne HO_125000.out BK124.out (by decide)) e_) e_) (fun e_ => Or.elim e_ (fun e_ => (fun e_ => (Kd.R_ne HO_125001.out BK124.out (by decide)) e_) e_) (fun e_ => (fun e_ => (Kd.R_ne HO_125003.out BK124.out (by decide)) e_) e_)))); replace HO_125000 := Aside0.mk (Kd.R_reok rfl hy0 (fun k_ e_ => HO_125000.out.1 k_ e_)); replace HO_125001 := Aside0.mk (Kd.R_reok rfl hy1 (fun k_ e_ => HO_125001.out.1 k_ e_)); replace HO_125003 := Aside0.mk (Kd.R_reok rfl hy2 (fun k_ e_ => HO_125003.out.1 k_ e_)); replace HB := Aside0.mk (hb); (try clear hb); (try clear hkp); (try clear hy0); (try clear hy1); (try clear hy2); have hz39 := cells_4 BK124.out) | ((with_reducible refine gate_callee (f := 9) rfl ?_); refine goesL_ (some 38) rfl rfl Tryd.func9 (by kernel_rfl) rfl #[.agg #[.slice Ao14 t127.length co14, .slice Ao17 t128.length co17, .bool t119, .slice Ao18 t129.length co18], .int .i64 1] rfl (by (try simp only [List.map_toArray, List.map_cons, List.map_nil]); first | done | (rw [show t127.length = t113.length from (Kd.R_reads' HO_125000.out).1.symm, show t128.length = t116.length from (Kd.R_reads' HO_125001.out).1.symm, show t129.length = t120.length from (Kd.R_reads' HO_125003.out).1.symm] <;> rfl) | rfl | (simp only [List.length_drop, List.length_take]; rfl)) ?_; (with_reducible refine (laws_heldDelta.calls kj4 _ _ t127 _ _ t128 t119 _ _ t129 1 t130 _ ?side1 ?side2 ?side3 ?side4 ?side5 ?side6 A31.out).mono ?_); (case side1 => exact cx (Kd.R_reads' HO_125000.out).2.2); (case side2 => rw [show t127.length = t113.length from (Kd.R_reads' HO_125000.out).1.symm]; exact (Kd.R_reads' HO_125000.out).2.1); (case side3 => exact cx (Kd.R_reads' HO_125001.out).2.2); (case side4 => rw [show t128.length = t116.length from (Kd.R_reads' HO_125001.out).1.symm]; exact (Kd.R_reads' HO_125001.out).2.1); (case side5 => exact cx (Kd.R_reads' HO_125003.out).2.2); (case side6 => rw [show t129.length = t120.length from (Kd.R_reads' HO_125003.out).1.symm]; exact (Kd.R_reads' HO_125003.out).2.1); rintro e w40 ⟨rfl, hb⟩; refine ⟨_, rfl, ?_⟩; replace HO_113000 := kR HO_113000 hb; replace HO_113001 := kR HO_113001 hb; replace HO_113003 := kR HO_113003 hb; replace HO_125000 := kR HO_125000 hb; replace HO_125001 := kR HO_125001 hb; replace HO_125003 := kR HO_125003 hb; replace BK112 := kb BK112 hb; replace BK124 := kb BK124 hb; replace HB := kB HB hb; (try clear hb); (try clear hb2); (try clear hk); (try clear hi)) | ((with_reducible refine gate_callee (f := 6) rfl ?_); refine goL (some 46) rfl rfl gf6 #[.string a0] rfl rfl ?_; (with_reducible refine (impl_DeltaGet.calls kj4 a0 t131 t134 t137 t138 t141 _ (GWm.below HGWm.out (bx HB.out)) A34.out).mono ?_); rintro e w41 ⟨v132, v135, v139, rfl, ho0, ho1, ho2, hb⟩; refine ⟨_, rfl, ?_⟩; have HO133 := Aside0.mk (Kd.R_lower (Kd.R_new' (Kd.R_new' ho0 (Kd.R_lt (rx HO_113000.out))) (Kd.R_lt (rx HO_125000.out))) (bz HB.out)); replace HO_113000 := Aside0.mk (Kd.R_elder' (rx HO_113000.out) (Kd.R_base ho0) hb); replace HO_125000 := Aside0.mk (Kd.R_elder' (rx HO_125000.out) (Kd.R_base ho0) hb); have HO136 := Aside0.mk (Kd.R_lower (Kd.R_new' (Kd.R_new' ho1 (Kd.R_lt (rx HO_113001.out))) (Kd.R_lt (rx HO_125001.out))) (bz HB.out)); replace HO_113001 := Aside0.mk (Kd.R_elder' (rx HO_113001.out) (Kd.R_base ho1) hb); replace HO_125001 := Aside0.mk (Kd.R_elder' (rx HO_125001.out) (Kd.R_base ho1) hb); have HO140 := Aside0.mk (Kd.R_lower (Kd.R_new' (Kd.R_new' ho2 (Kd.R_lt (rx HO_113003.out))) (Kd.R_lt (rx HO_125003.out))) (bz HB.out)); replace HO_113003 := Aside0.mk (Kd.R_elder' (rx HO_113003.out) (Kd.R_base ho2) hb); replace HO_125003 := Aside0.mk (Kd.R_elder' (rx HO_125003.out) (Kd.R_base ho2) hb); replace BK112 := kb BK112 hb; replace BK124 := kb BK124 hb; replace HB := kB HB hb; (try clear hb); (try clear hb2); (try clear hk); (try clear hi); (try clear ho0); (try clear ho1); (try clear ho2)) | ((with_reducible refine gate_dst (N := 9) rfl ?_); refine box_event rfl (N := 9) rfl (cs := #[.slice none 0 0, .slice none 0 0, .bool false, .slice none 0 0]) (t := 26) (by go_simp <;> rfl) ?_; intro gb142 hg w42 hbox hb; replace HO_113000 := kR HO_113000 hb; replace HO_113001 := kR HO_113001 hb; replace HO_113003 := kR HO_113003 hb; replace HO_125000 := kR HO_125000 hb; replace HO_125001 := kR HO_125001 hb; replace HO_125003 := kR HO_125003 hb; replace HO133 := kR HO133 hb; replace HO136 := kR HO136 hb; replace HO140 := kR HO140 hb; have BK142 := Aside0.mk (hbox); have GW142 := Le_.mk (ge_of hg HB.out); have GE142 := Le_.mk (ge_of hg HB.out); replace HB := kB HB hb; have NB112_142 := Ne_.mk ((by rw [hg]; exact Nat.ne_of_lt (blk_lt (gx (BK112.out))) : gb112 ≠ gb142)); have NB142_112 := Ne_.mk ((by rw [hg]; exact Nat.ne_of_gt (blk_lt (gx (BK112.out))) : gb142 ≠ gb112)); replace BK112 := kb BK112 hb; have NB124_142 := Ne_.mk ((by rw [hg]; exact Nat.ne_of_lt (blk_lt (gx (BK124.out))) : gb124 ≠ gb142)); have NB142_124 := Ne_.mk ((by rw [hg]; exact Nat.ne_of_gt (blk_lt (gx (BK124.out))) : gb142 ≠ gb124)); replace BK124 := kb BK124 hb; clear hb hbox hg; obtain ⟨Ao43, co43, eo43⟩ := Kd.R_slice HO133.out; subst eo43; have hnb44 := NB142_112.out; have hnc44 := NB112_142.out; have hnb45 := NB142_124.out; have hnc45 := NB124_142.out; have hz46 := cells_4 BK142.out; obtain ⟨Ao47, co47, eo47⟩ := Kd.R_slice HO136.out; subst eo47; obtain ⟨Ao48, co48, eo48⟩ := Kd.R_slice HO140.out; subst eo48))
              (try simp only [Act.put, List.setIfInBounds_toArray, List.set_cons_zero, List.set_cons_succ])
              go_cut [57] (fun v57 wc => ∃ (kq : Nat) (x57_34 : Bool), v57 = .bool x57_34 ∧ Aside0 (laws_FnExactDeltaGet.j1 kq t126 x57_34 t127 t128 t119 t129 = some r) ∧ Aside0 (kq ≤ kj4) ∧ Aside0 (Kd.R Kd.string 9 wc w.heap.size (fun k_ => some k_ ≠ ((.slice Ao14 t113.length co14) : Value).ownBlock ∧ some k_ ≠ ((.slice Ao43 t131.length co43) : Value).ownBlock) (.slice Ao8 t101.length co8) t101) ∧ Aside0 (Kd.R k43 43 wc w.heap.size (fun k_ => some k_ ≠ ((.slice Ao17 t116.length co17) : Value).ownBlock ∧ some k_ ≠ ((.slice Ao47 t134.length co47) : Value).ownBlock) (.slice Ao10 t104.length co10) t104) ∧ Aside0 (Kd.R k46 46 wc w.heap.size (fun k_ => some k_ ≠ ((.slice Ao18 t120.length co18) : Value).ownBlock ∧ some k_ ≠ ((.slice Ao48 t138.length co48) : Value).ownBlock) (.slice Ao11 t108.length co11) t108) ∧ Aside0 (Kd.R Kd.string 9 wc w.heap.size (fun k_ => some k_ ≠ ((.slice Ao8 t101.length co8) : Value).ownBlock ∧ some k_ ≠ ((.slice Ao43 t131.length co43) : Value).ownBlock) (.slice Ao14 t113.length co14) t127) ∧ Aside0 (Kd.R k43 43 wc w.heap.size (fun k_ => some k_ ≠ ((.slice Ao10 t104.length co10) : Value).ownBlock ∧ some k_ ≠ ((.slice Ao47 t134.length co47) : Value).ownBlock) (.slice Ao17 t116.length co17) t128) ∧ Aside0 (Kd.R k46 46 wc w.heap.size (fun k_ => some k_ ≠ ((.slice Ao11 t108.length co11) : Value).ownBlock ∧ some k_ ≠ ((.slice Ao48 t138.length co48) : Value).ownBlock) (.slice Ao18 t120.length co18) t129) ∧ Aside0 (Kd.R Kd.string 9 wc w.heap.size (fun k_ => some k_ ≠ ((.slice Ao8 t101.length co8) : Value).ownBlock ∧ some k_ ≠ ((.slice Ao14 t113.length co14) : Value).ownBlock) (.slice Ao43 t131.length co43) t131) ∧ Aside0 (Kd.R k43 43 wc w.heap.size (fun k_ => some k_ ≠ ((.slice Ao10 t104.length co10) : Value).ownBlock ∧ some k_ ≠ ((.slice Ao17 t116.length co17) : Value).ownBlock) (.slice Ao47 t134.length co47) t134) ∧ Aside0 (Kd.R k46 46 wc w.heap.size (fun k_ => some k_ ≠ ((.slice Ao11 t108.length co11) : Value).ownBlock ∧ some k_ ≠ ((.slice Ao18 t120.length co18) : Value).ownBlock) (.slice Ao48 t138.length co48) t138) ∧ Aside0 (wc.heap[gb112]? = some (.cells #[(.slice Ao8 t101.length co8), (.slice Ao10 t104.length co10), .bool t107, (.slice Ao11 t108.length co11)] 26 (0, 0))) ∧ Aside0 (wc.heap[gb124]? = some (.cells #[(.slice Ao14 t113.length co14), (.slice Ao17 t116.length co17), .bool t119, (.slice Ao18 t120.length co18)] 26 (0, 0))) ∧ Aside0 (wc.heap[gb142]? = some (.cells #[(.slice Ao43 t131.length co43), (.slice Ao47 t134.length co47), .bool t137, (.slice Ao48 t138.length co48)] 26 (0, 0))) ∧ Aside0 (Below w.heap.size w wc))
              case first =>
                have H := HC35.out
                clear HC35
                replace H := Option.bind_eq_some_iff.mp H
                obtain ⟨t143, A490, H⟩ := H
                have A49 := Aside0.mk A490
                clear A490
                by_cases c50 : t143 = true
                · subst c50
                  rw [if_pos rfl] at H
                  have H' := Aside0.mk H
                  clear H
                  have hnb51 := NB142_112.out
                  have hnc51 := NB112_142.out
                  have hnb52 := NB142_124.out
                  have hnc52 := NB124_142.out
                  have hz53 := cells_4 BK142.out
                  have hnb54 := NB112_124.out
                  have hnc54 := NB124_112.out
                  have hz55 := cells_4 BK112.out
                  go_wp2_with (first | ((with_reducible refine gate_callee (f := 7) rfl ?_); refine goL (some 51) rfl rfl gf7 #[.agg #[.slice Ao43 t131.length co43, .slice Ao47 t134.length co47, .bool t137, .slice Ao48 t138.length co48], .agg #[.slice Ao8 t101.length co8, .slice Ao10 t104.length co10, .bool t107, .slice Ao11 t108.length co11]] rfl rfl ?_; (with_reducible refine (laws_eqDelta.calls kj4 _ _ t131 _ _ t134 t137 _ _ t138 _ _ t101 _ _ t104 t107 _ _ t108 true _ ?side1 ?side2 ?side3 ?side4 ?side5 ?side6 ?side7 ?side8 ?side9 ?side10 ?side11 ?side12 A49.out).mono ?_); (case side1 => refine (Kd.R_reads' (e := 9) (base := w.heap.size) (ok := fun k_ => ((True ∧ some k_ ≠ (.slice Ao8 t101.length co8 : Value).ownBlock) ∧ some k_ ≠ (.slice Ao14 t113.length co14 : Value).ownBlock)) (n := t131.length) (c := co43) ?_).2.2; exact (rf1 HO133.out BK142.out (by decide))); (case side2 => exact (Kd.R_reads' HO133.out).2.1); (case side3 => refine (Kd.R_reads' (e := 43) (base := w.heap.size) (ok := fun k_ => ((True ∧ some k_ ≠ (.slice Ao10 t104.length co10 : Value).ownBlock) ∧ some k_ ≠ (.slice Ao17 t116.length co17 : Value).ownBlock)) (n := t134.length) (c := co47) ?_).2.2; exact (rf1 HO136.out BK142.out (by decide))); (case side4 => exact (Kd.R_reads' HO136.out).2.1); (case side5 => refine (Kd.R_reads' (e := 46) (base := w.heap.size) (ok := fun k_ => ((True ∧ some k_ ≠ (.slice Ao11 t108.length co11 : Value).ownBlock) ∧ some k_ ≠ (.slice Ao18 t120.length co18 : Value).ownBlock)) (n := t138.length) (c := co48) ?_).2.2; exact (rf1 HO140.out BK142.out (by decide))); (case side6 => exact (Kd.R_reads' HO140.out).2.1); (case side7 => refine (Kd.R_reads' (e := 9) (base := w.heap.size) (ok := fun k_ => (some k_ ≠ (.slice Ao14 t113.length co14 : Value).ownBlock ∧ some k_ ≠ (.slice Ao43 t131.length co43 : Value).ownBlock)) (n := t101.length) (c := co8) ?_).2.2; exact (rf1 HO_113000.out BK142.out (by decide))); (case side8 => exact (Kd.R_reads' HO_113000.out).2.1); (case side9 => refine (Kd.R_reads' (e := 43) (base := w.heap.size) (ok := fun k_ => (some k_ ≠ (.slice Ao17 t116.length co17 : Value).ownBlock ∧ some k_ ≠ (.slice Ao47 t134.length co47 : Value).ownBlock)) (n := t104.length) (c := co10) ?_).2.2; exact (rf1 HO_113001.out BK142.out (by decide))); (case side10 => exact (Kd.R_reads' HO_113001.out).2.1); (case side11 => refine (Kd.R_reads' (e := 46) (base := w.heap.size) (ok := fun k_ => (some k_ ≠ (.slice Ao18 t120.length co18 : Value).ownBlock ∧ some k_ ≠ (.slice Ao48 t138.length co48 : Value).ownBlock)) (n := t108.length) (c := co11) ?_).2.2; exact (rf1 HO_113003.out BK142.out (by decide))); (case side12 => exact (Kd.R_reads' HO_113003.out).2.1); rintro e w56 ⟨rfl, hb⟩; refine ⟨_, rfl, ?_⟩; replace HO_113000 := Aside0.mk (Kd.R_below (rf1 HO_113000.out BK142.out (by decide)) hb); replace HO_113001 := Aside0.mk (Kd.R_below (rf1 HO_113001.out BK142.out (by decide)) hb); replace HO_113003 := Aside0.mk (Kd.R_below (rf1 HO_113003.out BK142.out (by decide)) hb); replace HO_125000 := Aside0.mk (Kd.R_below (rf1 HO_125000.out BK142.out (by decide)) hb); replace HO_125001 := Aside0.mk (Kd.R_below (rf1 HO_125001.out BK142.out (by decide)) hb); replace HO_125003 := Aside0.mk (Kd.R_below (rf1 HO_125003.out BK142.out (by decide)) hb); replace HO133 := Aside0.mk (Kd.R_below (rf1 HO133.out BK142.out (by decide)) hb); replace HO136 := Aside0.mk (Kd.R_below (rf1 HO136.out BK142.out (by decide)) hb); replace HO140 := Aside0.mk (Kd.R_below (rf1 HO140.out BK142.out (by decide)) hb); replace BK112 := Aside0.mk (blk_below (g := gb112) (o := .cells #[.slice Ao8 t101.length co8, .slice Ao10 t104.length co10, .bool t107, .slice Ao11 t108.length co11] 26 (0, 0)) (cl BK112.out rfl) hb); replace BK124 := Aside0.mk (blk_below (g := gb124) (o := .cells #[.slice Ao14 t113.length co14, .slice Ao17 t116.length co17, .bool t119, .slice Ao18 t120.length co18] 26 (0, 0)) (cl BK124.out rfl) hb); replace BK142 := Aside0.mk (blk_below (g := gb142) (o := .cells #[.slice Ao43 t131.length co43, .slice Ao47 t134.length co47, .bool t137, .slice Ao48 t138.length co48] 26 (0, 0)) (cl BK142.out rfl) hb); replace HB := kB HB hb; (try clear hb); (try clear hb2); (try clear hk); (try clear hi)))
                  go_meet
                  case rel => exact ⟨_, ((t141 != t111)), (by first | rfl | (simp; done) | (simp [*]; done)), H', ⟨by have := HJ4.out; first | omega | exact Nat.le_refl _⟩, ⟨rx HO_113000.out⟩, ⟨rx HO_113001.out⟩, ⟨rx HO_113003.out⟩, ⟨rx HO_125000.out⟩, ⟨rx HO_125001.out⟩, ⟨rx HO_125003.out⟩, ⟨rx (Kd.R_mono HO133.out (fun _ hk => ⟨hk.1.2, hk.2⟩))⟩, ⟨rx (Kd.R_mono HO136.out (fun _ hk => ⟨hk.1.2, hk.2⟩))⟩, ⟨rx (Kd.R_mono HO140.out (fun _ hk => ⟨hk.1.2, hk.2⟩))⟩, ⟨gx (BK112.out)⟩, ⟨gx (BK124.out)⟩, ⟨gx (BK142.out)⟩, ⟨bx HB.out⟩⟩
                · replace c50 := Bool.eq_false_iff.mpr c50
                  subst c50
                  rw [if_neg Bool.false_ne_true] at H
                  have H' := Aside0.mk H
                  clear H
                  have hnb57 := NB142_112.out
                  have hnc57 := NB112_142.out
                  have hnb58 := NB142_124.out
                  have hnc58 := NB124_142.out
                  have hz59 := cells_4 BK142.out
                  have hnb60 := NB112_124.out
                  have hnc60 := NB124_112.out
                  have hz61 := cells_4 BK112.out
                  go_wp2_with (first | ((with_reducible refine gate_callee (f := 7) rfl ?_); refine goL (some 51) rfl rfl gf7 #[.agg #[.slice Ao43 t131.length co43, .slice Ao47 t134.length co47, .bool t137, .slice Ao48 t138.length co48], .agg #[.slice Ao8 t101.length co8, .slice Ao10 t104.length co10, .bool t107, .slice Ao11 t108.length co11]] rfl rfl ?_; (with_reducible refine (laws_eqDelta.calls kj4 _ _ t131 _ _ t134 t137 _ _ t138 _ _ t101 _ _ t104 t107 _ _ t108 false _ ?side1 ?side2 ?side3 ?side4 ?side5 ?side6 ?side7 ?side8 ?side9 ?side10 ?side11 ?side12 A49.out).mono ?_); (case side1 => refine (Kd.R_reads' (e := 9) (base := w.heap.size) (ok := fun k_ => ((True ∧ some k_ ≠ (.slice Ao8 t101.length co8 : Value).ownBlock) ∧ some k_ ≠ (.slice Ao14 t113.length co14 : Value).ownBlock)) (n := t131.length) (c := co43) ?_).2.2; exact (rf1 HO133.out BK142.out (by decide))); (case side2 => exact (Kd.R_reads' HO133.out).2.1); (case side3 => refine (Kd.R_reads' (e := 43) (base := w.heap.size) (ok := fun k_ => ((True ∧ some k_ ≠ (.slice Ao10 t104.length co10 : Value).ownBlock) ∧ some k_ ≠ (.slice Ao17 t116.length co17 : Value).ownBlock)) (n := t134.length) (c := co47) ?_).2.2; exact (rf1 HO136.out BK142.out (by decide))); (case side4 => exact (Kd.R_reads' HO136.out).2.1); (case side5 => refine (Kd.R_reads' (e := 46) (base := w.heap.size) (ok := fun k_ => ((True ∧ some k_ ≠ (.slice Ao11 t108.length co11 : Value).ownBlock) ∧ some k_ ≠ (.slice Ao18 t120.length co18 : Value).ownBlock)) (n := t138.length) (c := co48) ?_).2.2; exact (rf1 HO140.out BK142.out (by decide))); (case side6 => exact (Kd.R_reads' HO140.out).2.1); (case side7 => refine (Kd.R_reads' (e := 9) (base := w.heap.size) (ok := fun k_ => (some k_ ≠ (.slice Ao14 t113.length co14 : Value).ownBlock ∧ some k_ ≠ (.slice Ao43 t131.length co43 : Value).ownBlock)) (n := t101.length) (c := co8) ?_).2.2; exact (rf1 HO_113000.out BK142.out (by decide))); (case side8 => exact (Kd.R_reads' HO_113000.out).2.1); (case side9 => refine (Kd.R_reads' (e := 43) (base := w.heap.size) (ok := fun k_ => (some k_ ≠ (.slice Ao17 t116.length co17 : Value).ownBlock ∧ some k_ ≠ (.slice Ao47 t134.length co47 : Value).ownBlock)) (n := t104.length) (c := co10) ?_).2.2; exact (rf1 HO_113001.out BK142.out (by decide))); (case side10 => exact (Kd.R_reads' HO_113001.out).2.1); (case side11 => refine (Kd.R_reads' (e := 46) (base := w.heap.size) (ok := fun k_ => (some k_ ≠ (.slice Ao18 t120.length co18 : Value).ownBlock ∧ some k_ ≠ (.slice Ao48 t138.length co48 : Value).ownBlock)) (n := t108.length) (c := co11) ?_).2.2; exact (rf1 HO_113003.out BK142.out (by decide))); (case side12 => exact (Kd.R_reads' HO_113003.out).2.1); rintro e w62 ⟨rfl, hb⟩; refine ⟨_, rfl, ?_⟩; replace HO_113000 := Aside0.mk (Kd.R_below (rf1 HO_113000.out BK142.out (by decide)) hb); replace HO_113001 := Aside0.mk (Kd.R_below (rf1 HO_113001.out BK142.out (by decide)) hb); replace HO_113003 := Aside0.mk (Kd.R_below (rf1 HO_113003.out BK142.out (by decide)) hb); replace HO_125000 := Aside0.mk (Kd.R_below (rf1 HO_125000.out BK142.out (by decide)) hb); replace HO_125001 := Aside0.mk (Kd.R_below (rf1 HO_125001.out BK142.out (by decide)) hb); replace HO_125003 := Aside0.mk (Kd.R_below (rf1 HO_125003.out BK142.out (by decide)) hb); replace HO133 := Aside0.mk (Kd.R_below (rf1 HO133.out BK142.out (by decide)) hb); replace HO136 := Aside0.mk (Kd.R_below (rf1 HO136.out BK142.out (by decide)) hb); replace HO140 := Aside0.mk (Kd.R_below (rf1 HO140.out BK142.out (by decide)) hb); replace BK112 := Aside0.mk (blk_below (g := gb112) (o := .cells #[.slice Ao8 t101.length co8, .slice Ao10 t104.length co10, .bool t107, .slice Ao11 t108.length co11] 26 (0, 0)) (cl BK112.out rfl) hb); replace BK124 := Aside0.mk (blk_below (g := gb124) (o := .cells #[.slice Ao14 t113.length co14, .slice Ao17 t116.length co17, .bool t119, .slice Ao18 t120.length co18] 26 (0, 0)) (cl BK124.out rfl) hb); replace BK142 := Aside0.mk (blk_below (g := gb142) (o := .cells #[.slice Ao43 t131.length co43, .slice Ao47 t134.length co47, .bool t137, .slice Ao48 t138.length co48] 26 (0, 0)) (cl BK142.out rfl) hb); replace HB := kB HB hb; (try clear hb); (try clear hb2); (try clear hk); (try clear hi)))
                  go_meet
                  case rel => exact ⟨_, (true), (by first | rfl | (simp; done) | (simp [*]; done)), H', ⟨by have := HJ4.out; first | omega | exact Nat.le_refl _⟩, ⟨rx HO_113000.out⟩, ⟨rx HO_113001.out⟩, ⟨rx HO_113003.out⟩, ⟨rx HO_125000.out⟩, ⟨rx HO_125001.out⟩, ⟨rx HO_125003.out⟩, ⟨rx (Kd.R_mono HO133.out (fun _ hk => ⟨hk.1.2, hk.2⟩))⟩, ⟨rx (Kd.R_mono HO136.out (fun _ hk => ⟨hk.1.2, hk.2⟩))⟩, ⟨rx (Kd.R_mono HO140.out (fun _ hk => ⟨hk.1.2, hk.2⟩))⟩, ⟨gx (BK112.out)⟩, ⟨gx (BK124.out)⟩, ⟨gx (BK142.out)⟩, ⟨bx HB.out⟩⟩
              case rest =>
                clear HC35
                try clear c1
                try clear c2
                try clear c2b0
                try clear c2b1
                try clear p2
                try clear c3
                try clear c4
                try clear c5
                try clear c6
                try clear c7
                try clear c8
                try clear c9
                try clear c15
                try clear c20
                try clear c21
                try clear c25
                try clear c29
                try clear c32
                try clear c32b0
                try clear c33
                try clear c33b0
                try clear c33b1
                try clear c36
                try clear c44
                try clear c45
                try clear c50
                try clear c51
                try clear c52
                try clear c54
                try clear c57
                try clear c58
                try clear c60
                try clear hz16
                try clear hz22
                try clear hz23
                try clear hz26
                try clear hz27
                try clear hz37
                try clear hz39
                try clear hz46
                try clear hz53
                try clear hz55
                try clear hz59
                try clear hz61
                try clear hz9
                try clear p2
                obtain ⟨kq, x57_34, rfl, HA, HJ34, HO_113000, HO_113001, HO_113003, HO_125000, HO_125001, HO_125003, HO_143000, HO_143001, HO_143003, BK112, BK124, BK142, HB⟩ := hcut
                have hl125000_34 := (Kd.R_reads' HO_125000.out).1
                rw [hl125000_34] at HO_125000
                (try simp only [hl125000_34])
                (try simp only [hl125000_34] at BK112)
                (try simp only [hl125000_34] at BK124)
                (try simp only [hl125000_34] at BK142)
                (try simp only [hl125000_34] at HO_113000)
                (try simp only [hl125000_34] at HO_113001)
                (try simp only [hl125000_34] at HO_113003)
                (try simp only [hl125000_34] at HO_125001)
                (try simp only [hl125000_34] at HO_125003)
                (try simp only [hl125000_34] at HO_143000)
                (try simp only [hl125000_34] at HO_143001)
                (try simp only [hl125000_34] at HO_143003)
                have hl125001_34 := (Kd.R_reads' HO_125001.out).1
                rw [hl125001_34] at HO_125001
                (try simp only [hl125001_34])
                (try simp only [hl125001_34] at BK112)
                (try simp only [hl125001_34] at BK124)
                (try simp only [hl125001_34] at BK142)
                (try simp only [hl125001_34] at HO_113000)
                (try simp only [hl125001_34] at HO_113001)
                (try simp only [hl125001_34] at HO_113003)
                (try simp only [hl125001_34] at HO_125000)
                (try simp only [hl125001_34] at HO_125003)
                (try simp only [hl125001_34] at HO_143000)
                (try simp only [hl125001_34] at HO_143001)
                (try simp only [hl125001_34] at HO_143003)
                have hl125003_34 := (Kd.R_reads' HO_125003.out).1
                rw [hl125003_34] at HO_125003
                (try simp only [hl125003_34])
                (try simp only [hl125003_34] at BK112)
                (try simp only [hl125003_34] at BK124)
                (try simp only [hl125003_34] at BK142)
                (try simp only [hl125003_34] at HO_113000)
                (try simp only [hl125003_34] at HO_113001)
                (try simp only [hl125003_34] at HO_113003)
                (try simp only [hl125003_34] at HO_125000)
                (try simp only [hl125003_34] at HO_125001)
                (try simp only [hl125003_34] at HO_143000)
                (try simp only [hl125003_34] at HO_143001)
                (try simp only [hl125003_34] at HO_143003)
                cases kq with
                | zero => exact absurd HA.out (by simp [laws_FnExactDeltaGet.j1])
                | succ kj34 =>
                  have H := HA.out
                  clear HA
                  simp only [laws_FnExactDeltaGet.j1] at H
                  by_cases c63 : x57_34 = true
                  · subst c63
                    rw [if_pos rfl] at H
                    exact absurd (Option.some.inj H) (by rw [HT.out]; decide)
                  · replace c63 := Bool.eq_false_iff.mpr c63
                    subst c63
                    rw [if_neg Bool.false_ne_true] at H
                    replace H := Option.bind_eq_some_iff.mp H
                    obtain ⟨t144, A640, H⟩ := H
                    have A64 := Aside0.mk A640
                    clear A640
                    by_cases c65 : t144 < 0
                    · rw [if_pos c65] at H
                      have c65b0 := decide_eq_true c65
                      clear c65
                      exact absurd (Option.some.inj H) (by rw [HT.out]; decide)
                    · rw [if_neg c65] at H
                      have c65b0 := decide_eq_false c65
                      clear c65
                      by_cases c66 : t144 = t126
                      · rw [if_pos c66] at H
                        have c66b0 : (t144 == t126) = true := beq_iff_eq.mpr c66
                        have c66b1 : (t144 != t126) = false := bne_eq_false_iff_eq.mpr c66
                        clear c66
                        obtain rfl := Option.some.inj H
                        have hnb67 := NB124_112.out
                        have hnc67 := NB112_124.out
                        have hnb68 := NB124_142.out
                        have hnc68 := NB142_124.out
                        have hz69 := cells_4 BK124.out
                        go_wp2_with (first | ((with_reducible refine gate_callee (f := 9) rfl ?_); refine goL (some 60) rfl rfl gf9 #[.agg #[.slice Ao14 t127.length co14, .slice Ao17 t128.length co17, .bool t119, .slice Ao18 t129.length co18], .int .i64 1] rfl rfl ?_; (with_reducible refine (laws_heldDelta.calls kj34 _ _ t127 _ _ t128 t119 _ _ t129 1 t144 _ (cx (Kd.R_reads' HO_125000.out).2.2) ((Kd.R_reads' HO_125000.out).2.1) (cx (Kd.R_reads' HO_125001.out).2.2) ((Kd.R_reads' HO_125001.out).2.1) (cx (Kd.R_reads' HO_125003.out).2.2) ((Kd.R_reads' HO_125003.out).2.1) A64.out).mono ?_); rintro e w70 ⟨rfl, hb⟩; refine ⟨_, rfl, ?_⟩; replace HO_113000 := kR HO_113000 hb; replace HO_113001 := kR HO_113001 hb; replace HO_113003 := kR HO_113003 hb; replace HO_125000 := kR HO_125000 hb; replace HO_125001 := kR HO_125001 hb; replace HO_125003 := kR HO_125003 hb; replace HO_143000 := kR HO_143000 hb; replace HO_143001 := kR HO_143001 hb; replace HO_143003 := kR HO_143003 hb; replace BK112 := kb BK112 hb; replace BK124 := kb BK124 hb; replace BK142 := kb BK142 hb; replace HB := kB HB hb; (try clear hb); (try clear hb2); (try clear hk); (try clear hi)))
                        go_ret
                        exact ⟨by rfl, bx HB.out⟩
                      · rw [if_neg c66] at H
                        have c66b0 : (t144 == t126) = false := beq_eq_false_iff_ne.mpr c66
                        have c66b1 : (t144 != t126) = true := bne_iff_ne.mpr c66
                        exact absurd (Option.some.inj H) (by rw [HT.out]; decide)
            · rw [if_neg c33] at H
              have c33b0 : (t130 == t126) = false := beq_eq_false_iff_ne.mpr c33
              have c33b1 : (t130 != t126) = true := bne_iff_ne.mpr c33
              exact absurd (Option.some.inj H) (by rw [HT.out]; decide)
end Go.Proofs.YtabindnaedchgaaDoor.M
end

section
/- How an argument that is read as data gives the reading that the contracts ask: integers, bools, strings, slices and structs of these, of any depth. -/
namespace Go.Proofs.YtabindnaedchgaaDoor.Frame
open Go.RowKit Go.Proofs.YtabindnaedchgaaDoorW.PrintWords Go.ChangeShapes Go.WideShapes
set_option linter.unusedVariables false
def Opens {α : Type} (P : Program) (t : TypeId) (d : Kd α) (G : α → Prop) : Prop :=
  ∀ (H : Type) (enc : TypeId × Value → H) (w : World) (base : Nat) (spare : Nat → Bool) (held : Bool) (fuel : Nat) (cs : List Value) (x : DataW H × List MemPlace),
    DataW.trod enc P w base spare held fuel t cs = some x → ∃ v : α, d.K w v cs ∧ G v
theorem Opens.int {P : Program} {t : TypeId} {k : IntKind} (h : P.underlying t = some (.int k)) : Opens P t (Kd.int k) (fun n => (Lit.int k n).wf = true) := by
  intro H enc w base spare held fuel cs x hx
  obtain ⟨n, rfl, _, hw⟩ := DataW.trod_int h hx
  exact ⟨n, rfl, hw⟩
theorem Opens.bool {P : Program} {t : TypeId} (h : P.underlying t = some .bool) : Opens P t Kd.bool (fun _ => True) := by
  intro H enc w base spare held fuel cs x hx
  obtain ⟨b, rfl, _⟩ := DataW.trod_bool h hx
  exact ⟨b, rfl, trivial⟩
theorem Opens.string {P : Program} {t : TypeId} (h : P.underlying t = some .string) : Opens P t Kd.string (fun s => s.size ≤ 9223372036854775807) := by
  intro H enc w base spare held fuel cs x hx
  obtain ⟨s, rfl, _, hs⟩ := DataW.trod_string h hx
  exact ⟨s, rfl, hs⟩
theorem list_choice {α : Type} (p : Nat → α → Prop) : ∀ n, (∀ i, i < n → ∃ x, p i x) → ∃ xs : List α, xs.length = n ∧ ∀ i x, xs[i]? = some x → p i x
  | 0, _ => ⟨[], rfl, fun i x h => by simp at h⟩
  | n + 1, h => by
    obtain ⟨xs, hl, hx⟩ := list_choice p n (fun i hi => h i (by omega))
    obtain ⟨y, hy⟩ := h n (by omega)
    refine ⟨xs ++ [y], by simp [hl], fun i x hi => ?_⟩
    rcases Nat.lt_or_ge i xs.length with hlt | hge
    · rw [List.getElem?_append_left hlt] at hi
      exact hx i x hi
    · rw [List.getElem?_append_right hge] at hi
      have h0 : i - xs.length = 0 := by
        rcases Nat.eq_zero_or_pos (i - xs.length) with h0 | h0
        · exact h0
        · rw [List.getElem?_eq_none (by simp; omega)] at hi
          cases hi
      rw [h0] at hi
      simp at hi
      subst hi
      have : i = n := by omega
      subst this
      exact hy
theorem Opens.slice {α : Type} {P : Program} {t e : TypeId} {d : Kd α} {G : α → Prop} (h : P.underlying t = some (.slice e)) (hs : P.cellsOf e = d.sz) (he : Opens P e d G) :
    Opens P t (Kd.slice e d) (fun xs => xs.length ≤ 9223372036854775807 ∧ ∀ x ∈ xs, G x) := by
  intro H enc w base spare held fuel cs x hx
  rcases DataW.trod_slice h hx with ⟨rfl, _⟩ | ⟨a, len, cap, elems, rest, n, _, rfl, _, hb, hl, hm, hlen, hel, _, _⟩
  · exact ⟨[], ⟨none, 0, rfl, Nat.le_refl _, rfl, by simp, fun h => absurd h (by simp)⟩, by simp, fun x hx => by simp at hx⟩
  · have hex : ∀ i, i < len → ∃ v : α, G v ∧ ∃ c, c.length = d.sz ∧ d.K w v c ∧ ∀ j u, c[j]? = some u → w.cell? (a.add (i * d.sz + j)) = some u := by
      intro i hi
      have hk := hel i hi
      rw [List.getElem?_eq_getElem (by omega)] at hk
      obtain ⟨c, hc, ht⟩ := Option.bind_eq_some_iff.1 hk
      obtain ⟨_, hcl, hcc⟩ := World.cells?_some hc
      obtain ⟨v, hv, hg⟩ := he H enc w base spare held n c _ ht
      refine ⟨v, hg, c, by rw [hcl, hs], hv, fun j u hj => ?_⟩
      have hjl : j < c.length := by
        rcases Nat.lt_or_ge j c.length with h1 | h1
        · exact h1
        · rw [List.getElem?_eq_none h1] at hj
          cases hj
      have h2 := hcc j (by omega)
      rw [hj] at h2
      rw [hs] at h2
      have ha : (a.add (i * d.sz)).add j = a.add (i * d.sz + j) := by
        unfold Addr.add
        by_cases h1 : i * d.sz = 0 <;> by_cases h3 : j = 0 <;> simp [h1, h3, Nat.add_assoc]
      rw [← ha]
      exact h2
    obtain ⟨xs, hxl, hxs⟩ := list_choice _ len hex
    refine ⟨xs, ⟨some a, cap, by rw [hxl], by omega, hxl ▸ rfl, by unfold maxLen at hm; omega, fun _ => ⟨a, rfl, fun j p hj => (hxs j p hj).2⟩⟩, by unfold maxLen at hm; omega, fun x hx => ?_⟩
    obtain ⟨i, hi⟩ := List.getElem?_of_mem hx
    exact (hxs i x hi).1
def OpensF {α : Type} (P : Program) (fs : List Field) (off : Nat) (d : Kd α) (G : α → Prop) : Prop :=
  ∀ (H : Type) (enc : TypeId × Value → H) (w : World) (base : Nat) (spare : Nat → Bool) (held : Bool) (fuel : Nat) (cs : List Value) (xs : List (DataW H × List MemPlace)),
    cs.length = off + d.sz → (∀ (i : Nat) (f : Field), fs[i]? = some f → DataW.trod enc P w base spare held fuel f.type ((cs.drop f.offset).take (P.cellsOf f.type)) = xs[i]?) → xs.length = fs.length → ∃ v : α, d.K w v (cs.drop off) ∧ G v
theorem OpensF.one {α : Type} {P : Program} {f : Field} {off : Nat} {d : Kd α} {G : α → Prop} (ho : f.offset = off) (hs : P.cellsOf f.type = d.sz) (h : Opens P f.type d G) : OpensF P [f] off d G := by
  intro H enc w base spare held fuel cs xs hl hx hxl
  have h0 := hx 0 f rfl
  obtain ⟨x0, rfl⟩ : ∃ x0, xs = [x0] := by
    match xs, hxl with
    | [x0], _ => exact ⟨x0, rfl⟩
  obtain ⟨v, hv, hg⟩ := h H enc w base spare held fuel _ _ h0
  refine ⟨v, ?_, hg⟩
  rw [ho, hs, List.take_of_length_le (by rw [List.length_drop]; omega)] at hv
  exact hv
theorem OpensF.cons {α β : Type} {P : Program} {f : Field} {fs : List Field} {off : Nat} {d : Kd α} {e : Kd β} {G : α → Prop} {K : β → Prop} (ho : f.offset = off) (hs : P.cellsOf f.type = d.sz) (h : Opens P f.type d G) (hr : OpensF P fs (off + d.sz) e K) :
    OpensF P (f :: fs) off (Kd.pair d e) (fun x => G x.1 ∧ K x.2) := by
  intro H enc w base spare held fuel cs xs hl hx hxl
  have hl' : cs.length = off + d.sz + e.sz := by rw [hl]; show off + (d.sz + e.sz) = _; omega
  obtain ⟨x0, xr, rfl⟩ : ∃ x0 xr, xs = x0 :: xr := by
    match xs, hxl with
    | x0 :: xr, _ => exact ⟨x0, xr, rfl⟩
  obtain ⟨v, hv, hg⟩ := h H enc w base spare held fuel _ _ (hx 0 f rfl)
  obtain ⟨u, hu, hk⟩ := hr H enc w base spare held fuel cs xr hl' (fun i g hi => hx (i + 1) g hi) (by simpa using hxl)
  refine ⟨(v, u), ⟨(cs.drop off).take d.sz, cs.drop (off + d.sz), ?_, ?_, hu⟩, hg, hk⟩
  · rw [← List.drop_drop, List.take_append_drop]
  · rw [ho, hs] at hv
    exact hv
theorem Opens.struct {α β : Type} {P : Program} {t : TypeId} {fs : Array Field} {d : Kd α} {G : α → Prop} {f : β → α} (g : α → β) (hfg : ∀ x, f (g x) = x) (h : P.underlying t = some (.struct fs)) (hs : P.cellsOf t = d.sz) (hf : OpensF P fs.toList 0 d G) :
    Opens P t (Kd.iso d f) (fun x => G (f x)) := by
  intro H enc w base spare held fuel cs x hx
  obtain ⟨xs, n, _, _, hl, hxl, hi⟩ := DataW.trod_struct h hx
  obtain ⟨v, hv, hg⟩ := hf H enc w base spare held n cs xs (by rw [hl, hs]; omega) (fun i fd hfd => hi i fd (by rw [← Array.getElem?_toList]; exact hfd)) (by rw [hxl]; simp)
  refine ⟨g v, ?_, ?_⟩
  · show d.K w (f (g v)) cs
    rw [hfg]
    simpa using hv
  · show G (f (g v))
    rw [hfg]
    exact hg
end Go.Proofs.YtabindnaedchgaaDoor.Frame
end

section
/- How the parameters' types are opened. -/
namespace Go.Proofs.YtabindnaedchgaaDoor.M
open Go.RowKit Go.Proofs.YtabindnaedchgaaDoorW.PrintWords Go.Proofs.YtabindnaedchgaaDoor.Frame
set_option linter.unusedVariables false
end Go.Proofs.YtabindnaedchgaaDoor.M
end
