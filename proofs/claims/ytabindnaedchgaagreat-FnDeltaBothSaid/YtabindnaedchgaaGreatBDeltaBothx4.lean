import Derived.Test.YtabindnaedchgaaGreatBDeltaBothx3
import Derived.Shelf.SlicesQ.IndexFunc
import Derived.Ground.SlgfProg
import Derived.Shelf.SlSortCmp.NoneTotal
import Derived.Ground.SlsfProg
import Derived.Test.YtabindnaedchgaaGreatProg
import Derived.Lib.SliceRun
import Derived.Sort.LotA
import Derived.Sort.Walk0
import Derived.Laws.Cover1

section
/- Functions of the program, told plainly, and their contracts: part A0. -/
namespace Go.Proofs.YtabindnaedchgaaGreat.Rf
open Go Go.RowKit
set_option linter.unusedVariables false
noncomputable def spec_l1Open.C (k : Nat) : CEs := []
abbrev spec_l1Open.ps : List Par := [⟨t22, .rd⟩]
abbrev spec_l1Open.rs : List Res := [⟨t89, .ro, true⟩]
def spec_l1Open.H : Heads := [(3, [(0, .ro)])]
noncomputable def spec_l1Open.F : Nat → ProdT (spec_l1Open.ps.map (·.τ)) → Option (ProdT (outs spec_l1Open.ps spec_l1Open.rs)) := evFn E spec_l1Open.C spec_l1Open.H Tryz.f26 spec_l1Open.ps spec_l1Open.rs
noncomputable def spec_l1Open.J3 (k : Nat) (x0 : List Int) : Option (List Int × Int) := atJ E spec_l1Open.C spec_l1Open.H Tryz.f26 spec_l1Open.ps spec_l1Open.rs [true, true] 0 [] k (sh 11 [(0, .d t22 x0 .ro)])
noncomputable def spec_l1Open.f (k : Nat) (x0 : List Int) : Option (List Int × Int) := spec_l1Open.F k x0
theorem spec_l1Open.f_eq (k : Nat) (x0 : List Int) : spec_l1Open.f k x0 = ifb (decide ((x0.length : Int) > (2000 : Int))) (ifb (decide (0 ≤ (0 : Int)) && (decide ((0 : Int) ≤ (2000 : Int)) && decide ((2000 : Int) ≤ (x0.length : Int)))) (spec_l1Open.J3 k ((x0.take (2000 : Int).toNat).drop (0 : Int).toNat)) (none)) (spec_l1Open.J3 k x0) := by kernel_rfl
theorem spec_l1Open.J3_eq (k : Nat) (x0 : List Int) : spec_l1Open.J3 (k + 1) x0 = some (x0, (0 : Int)) := by kernel_rfl
theorem spec_l1Open.ok (k : Nat) : CsOk Tryz.prog Jp (spec_l1Open.C k) := .nil
theorem spec_l1Open.can : Can Tryz.prog 26 := can_of (fn := Tryz.f26) (by kernel_rfl) (by kernel_rfl) (by kernel_rfl)
theorem spec_l1Open.snd (k : Nat) : Snd Tryz.prog Jp 26 ⟨spec_l1Open.ps, spec_l1Open.rs, spec_l1Open.F k⟩ := snd_of E_ok spec_l1Open.ok mixed (fn := Tryz.f26) (by kernel_rfl) (by kernel_rfl) (by kernel_rfl) k
noncomputable def spec_l1Rd__pick.C (k : Nat) : CEs := []
abbrev spec_l1Rd__pick.ps : List Par := [⟨t89, .bx .ro⟩, ⟨(.int .i64), .rd⟩]
abbrev spec_l1Rd__pick.rs : List Res := [⟨(.int .i64), .ro, false⟩]
def spec_l1Rd__pick.H : Heads := [(8, [(0, (.pr .ro .ro)), (1, .ro), (6, .ro)])]
noncomputable def spec_l1Rd__pick.F : Nat → ProdT (spec_l1Rd__pick.ps.map (·.τ)) → Option (ProdT (outs spec_l1Rd__pick.ps spec_l1Rd__pick.rs)) := evFn E spec_l1Rd__pick.C spec_l1Rd__pick.H Tryz.f28 spec_l1Rd__pick.ps spec_l1Rd__pick.rs
noncomputable def spec_l1Rd__pick.J8 (k : Nat) (x0 : List Int × Int) (x1 : Int) (x6 : Int) : Option (Int × (List Int × Int)) := atJ E spec_l1Rd__pick.C spec_l1Rd__pick.H Tryz.f28 spec_l1Rd__pick.ps spec_l1Rd__pick.rs [true, true, true, true, true, true] 0 [] k (sh 99 [(0, .box t89 x0 (.pr .ro .ro) none), (1, .d (.int .i64) x1 .ro), (6, .d (.int .i64) x6 .ro)])
noncomputable def spec_l1Rd__pick.f (k : Nat) (x0 : List Int × Int) (x1 : Int) : Option (Int × (List Int × Int)) := spec_l1Rd__pick.F k (x0, x1)
theorem spec_l1Rd__pick.f_eq (k : Nat) (x0 : List Int × Int) (x1 : Int) : spec_l1Rd__pick.f k x0 x1 = ifb (decide (x1 < (1 : Int))) (some ((0 : Int), (x0.1, (w64 (x0.2 + 1))))) (ifb ((x0.1.length : Int) == (0 : Int)) (some ((0 : Int), (x0.1, (w64 (x0.2 + 1))))) (ifb (decide ((w64 ((w64 (x0.2 + 1)) - 1)) < (x0.1.length : Int))) (ifb (decide (0 ≤ (w64 ((w64 (x0.2 + 1)) - 1))) && decide ((w64 ((w64 (x0.2 + 1)) - 1)) < (x0.1.length : Int))) (ifb (decide (x1 ≠ 0)) (some (((w64 (x0.1.getD ((w64 ((w64 (x0.2 + 1)) - 1)).toNat) (0 : Int))).tmod x1), (x0.1, (w64 (x0.2 + 1))))) (none)) (none)) (ifb (decide ((x0.1.length : Int) ≠ 0)) (ifb (decide (0 ≤ ((w64 ((w64 (x0.2 + 1)) - 1)).tmod (x0.1.length : Int))) && decide (((w64 ((w64 (x0.2 + 1)) - 1)).tmod (x0.1.length : Int)) < (x0.1.length : Int))) (ifb (decide ((x0.1.length : Int) ≠ 0)) (ifb (decide (0 ≤ ((w64 ((w64 ((w64 ((w64 (x0.2 + 1)) - 1)) * (7 : Int))) + (3 : Int))).tmod (x0.1.length : Int))) && decide (((w64 ((w64 ((w64 ((w64 (x0.2 + 1)) - 1)) * (7 : Int))) + (3 : Int))).tmod (x0.1.length : Int)) < (x0.1.length : Int))) (ifb (decide ((x0.1.length : Int) ≠ 0)) (spec_l1Rd__pick.J8 k (x0.1, (w64 (x0.2 + 1))) x1 (w64 ((w64 ((w64 ((w64 ((w64 (x0.1.getD (((w64 ((w64 (x0.2 + 1)) - 1)).tmod (x0.1.length : Int)).toNat) (0 : Int))) * (131 : Int))) + (w64 ((w64 (x0.1.getD (((w64 ((w64 ((w64 ((w64 (x0.2 + 1)) - 1)) * (7 : Int))) + (3 : Int))).tmod (x0.1.length : Int)).toNat) (0 : Int))) * (1117 : Int))))) + (w64 ((w64 ((w64 (x0.2 + 1)) - 1)) * (29 : Int))))) + (w64 ((w64 ((w64 ((w64 (x0.2 + 1)) - 1)).tdiv (x0.1.length : Int))) * (53 : Int)))))) (none)) (none)) (none)) (none)) (none)))) := by kernel_rfl
theorem spec_l1Rd__pick.J8_eq (k : Nat) (x0 : List Int × Int) (x1 : Int) (x6 : Int) : spec_l1Rd__pick.J8 (k + 1) x0 x1 x6 = ifb (decide ((64 : Int) ≠ 0)) (ifb (decide (x1 ≠ 0)) (some (((w64 ((BitVec.ofInt 64 x6 ^^^ BitVec.ofInt 64 (w64 (x6.tdiv (64 : Int)))).toNat)).tmod x1), x0)) (none)) (none) := by kernel_rfl
theorem spec_l1Rd__pick.ok (k : Nat) : CsOk Tryz.prog Jp (spec_l1Rd__pick.C k) := .nil
theorem spec_l1Rd__pick.can : Can Tryz.prog 28 := can_of (fn := Tryz.f28) (by kernel_rfl) (by kernel_rfl) (by kernel_rfl)
theorem spec_l1Rd__pick.snd (k : Nat) : Snd Tryz.prog Jp 28 ⟨spec_l1Rd__pick.ps, spec_l1Rd__pick.rs, spec_l1Rd__pick.F k⟩ := snd_of E_ok spec_l1Rd__pick.ok mixed (fn := Tryz.f28) (by kernel_rfl) (by kernel_rfl) (by kernel_rfl) k
noncomputable def spec_l13Affix.C (k : Nat) : CEs := [(28, ⟨spec_l1Rd__pick.ps, spec_l1Rd__pick.rs, spec_l1Rd__pick.F k⟩)]
abbrev spec_l13Affix.ps : List Par := [⟨t89, .bx .ro⟩]
abbrev spec_l13Affix.rs : List Res := [⟨t66, .ro, false⟩]
def spec_l13Affix.H : Heads := [(2, [(0, .ro), (2, .ro), (3, (.own .ro))])]
noncomputable def spec_l13Affix.F : Nat → ProdT (spec_l13Affix.ps.map (·.τ)) → Option (ProdT (outs spec_l13Affix.ps spec_l13Affix.rs)) := evFn E spec_l13Affix.C spec_l13Affix.H Tryz.f98 spec_l13Affix.ps spec_l13Affix.rs
noncomputable def spec_l13Affix.J2 (k : Nat) (x0 : List Int × Int) (x2 : Aff) (x3 : List Aff) : Option ((Aff) × (List Int × Int)) := atJ E spec_l13Affix.C spec_l13Affix.H Tryz.f98 spec_l13Affix.ps spec_l13Affix.rs [true, true] 0 [] k (sh 20 [(0, .box t89 x0 .ro none), (2, .box t66 x2 .ro none), (3, .d t23 x3 (.own .ro))])
noncomputable def spec_l13Affix.f (k : Nat) (x0 : List Int × Int) : Option ((Aff) × (List Int × Int)) := spec_l13Affix.F k x0
theorem spec_l13Affix.f_eq (k : Nat) (x0 : List Int × Int) : spec_l13Affix.f k x0 = spec_l13Affix.J2 k x0 zA [((⟨#[83]⟩ : ByteArray), false, bz, (⟨#[115]⟩ : ByteArray), bz), ((⟨#[83]⟩ : ByteArray), false, (⟨#[121]⟩ : ByteArray), (⟨#[105, 101, 115]⟩ : ByteArray), (⟨#[121]⟩ : ByteArray)), ((⟨#[71]⟩ : ByteArray), false, bz, (⟨#[105, 110, 103]⟩ : ByteArray), bz), ((⟨#[71]⟩ : ByteArray), false, (⟨#[101]⟩ : ByteArray), (⟨#[105, 110, 103]⟩ : ByteArray), (⟨#[101]⟩ : ByteArray)), ((⟨#[85]⟩ : ByteArray), true, bz, (⟨#[117, 110]⟩ : ByteArray), bz), ((⟨#[82]⟩ : ByteArray), true, (⟨#[97]⟩ : ByteArray), (⟨#[98]⟩ : ByteArray), (⟨#[97]⟩ : ByteArray)), ((⟨#[84]⟩ : ByteArray), false, bz, (⟨#[116]⟩ : ByteArray), (⟨#[97, 99]⟩ : ByteArray)), ((⟨#[67]⟩ : ByteArray), false, bz, (⟨#[97, 98, 99]⟩ : ByteArray), bz)] := by kernel_rfl
theorem spec_l13Affix.J2_eq (k : Nat) (x0 : List Int × Int) (x2 : Aff) (x3 : List Aff) : spec_l13Affix.J2 (k + 1) x0 x2 x3 = (spec_l1Rd__pick.f k x0 (x3.length : Int)).bind fun (r0 : Int × (List Int × Int)) => ifb (decide (0 ≤ r0.1) && decide (r0.1 < (x3.length : Int))) (some ((x3.getD r0.1.toNat zA), r0.2)) (none) := by kernel_rfl
theorem spec_l13Affix.ok (k : Nat) : CsOk Tryz.prog Jp (spec_l13Affix.C k) := .cons (spec_l1Rd__pick.snd k) spec_l1Rd__pick.can <| .nil
theorem spec_l13Affix.can : Can Tryz.prog 98 := can_of (fn := Tryz.f98) (by kernel_rfl) (by kernel_rfl) (by kernel_rfl)
theorem spec_l13Affix.snd (k : Nat) : Snd Tryz.prog Jp 98 ⟨spec_l13Affix.ps, spec_l13Affix.rs, spec_l13Affix.F k⟩ := snd_of E_ok spec_l13Affix.ok mixed (fn := Tryz.f98) (by kernel_rfl) (by kernel_rfl) (by kernel_rfl) k
noncomputable def spec_l13Affixes.C (k : Nat) : CEs := [(28, ⟨spec_l1Rd__pick.ps, spec_l1Rd__pick.rs, spec_l1Rd__pick.F k⟩), (98, ⟨spec_l13Affix.ps, spec_l13Affix.rs, spec_l13Affix.F k⟩)]
abbrev spec_l13Affixes.ps : List Par := [⟨t89, .bx .ro⟩]
abbrev spec_l13Affixes.rs : List Res := [⟨t23, (.own .ro), false⟩]
def spec_l13Affixes.H : Heads := [(3, [(0, .ro), (3, (.own .ro)), (4, .ro)]), (8, [(0, .ro), (3, (.own .ro)), (4, .ro), (5, .ro), (6, .ro), (7, .ro)]), (9, [(0, .ro), (3, (.own .ro)), (4, .ro), (5, .ro), (6, .ro), (7, .ro)])]
noncomputable def spec_l13Affixes.F : Nat → ProdT (spec_l13Affixes.ps.map (·.τ)) → Option (ProdT (outs spec_l13Affixes.ps spec_l13Affixes.rs)) := evFn E spec_l13Affixes.C spec_l13Affixes.H Tryz.f84 spec_l13Affixes.ps spec_l13Affixes.rs
noncomputable def spec_l13Affixes.L3 (k k1 : Nat) (x0 : List Int × Int) (x3 : List Aff) (x4 : Int) : Option (List Aff × (List Int × Int)) := atL E spec_l13Affixes.C spec_l13Affixes.H Tryz.f84 spec_l13Affixes.ps spec_l13Affixes.rs [true, true, false, true, true] k [] k1 (sh 39 [(0, .box t89 x0 .ro none), (3, .d t23 x3 (.own .ro)), (4, .d (.int .i64) x4 .ro)])
noncomputable def spec_l13Affixes.L8 (k k1 k2 : Nat) (x0 : List Int × Int) (x3 : List Aff) (x4 : Int) (x5 : Aff) (x6 : Bool) (x7 : Int) : Option (List Aff × (List Int × Int)) := atL E spec_l13Affixes.C spec_l13Affixes.H Tryz.f84 spec_l13Affixes.ps spec_l13Affixes.rs [true, true, false, true, true, true, true, false, true, true, true, false, true, true] k [k1] k2 (sh 39 [(0, .box t89 x0 .ro none), (3, .d t23 x3 (.own .ro)), (4, .d (.int .i64) x4 .ro), (5, .box t66 x5 .ro none), (6, .d .bool x6 .ro), (7, .d (.int .i64) x7 .ro)])
noncomputable def spec_l13Affixes.J9 (k k1 k2 k3 : Nat) (x0 : List Int × Int) (x3 : List Aff) (x4 : Int) (x5 : Aff) (x6 : Bool) (x7 : Int) : Option (List Aff × (List Int × Int)) := atJ E spec_l13Affixes.C spec_l13Affixes.H Tryz.f84 spec_l13Affixes.ps spec_l13Affixes.rs [true, true, false, true, true, true, true, false, true, true, true, false, true, true, true, true, true] k [k1, k2] k3 (sh 39 [(0, .box t89 x0 .ro none), (3, .d t23 x3 (.own .ro)), (4, .d (.int .i64) x4 .ro), (5, .box t66 x5 .ro none), (6, .d .bool x6 .ro), (7, .d (.int .i64) x7 .ro)])
noncomputable def spec_l13Affixes.f (k : Nat) (x0 : List Int × Int) : Option (List Aff × (List Int × Int)) := spec_l13Affixes.F k x0
theorem spec_l13Affixes.f_eq (k : Nat) (x0 : List Int × Int) : spec_l13Affixes.f k x0 = (spec_l1Rd__pick.f k x0 (5 : Int)).bind fun (r0 : Int × (List Int × Int)) => spec_l13Affixes.L3 k k r0.2 ([] : List Aff) r0.1 := by kernel_rfl
theorem spec_l13Affixes.L3_eq (k k1 : Nat) (x0 : List Int × Int) (x3 : List Aff) (x4 : Int) : spec_l13Affixes.L3 k (k1 + 1) x0 x3 x4 = ifb (decide (x4 > 0)) ((spec_l13Affix.f k1 x0).bind fun (r1 : (Aff) × (List Int × Int)) => spec_l13Affixes.L8 k k1 k1 r1.2 x3 x4 r1.1 false (0 : Int)) (some (x3, x0)) := by kernel_rfl
theorem spec_l13Affixes.L8_eq (k k1 k2 : Nat) (x0 : List Int × Int) (x3 : List Aff) (x4 : Int) (x5 : Aff) (x6 : Bool) (x7 : Int) : spec_l13Affixes.L8 k k1 (k2 + 1) x0 x3 x4 x5 x6 x7 = ifb (decide (x7 < (x3.length : Int))) (ifb x6 (spec_l13Affixes.J9 k k1 k2 k2 x0 x3 x4 x5 true x7) (ifb (decide (0 ≤ x7) && decide (x7 < (x3.length : Int))) (spec_l13Affixes.J9 k k1 k2 k2 x0 x3 x4 x5 ((((x3.getD x7.toNat zA).1).toList == x5.1.toList) && ((((x3.getD x7.toNat zA).2).1 == x5.2.1) && ((((((x3.getD x7.toNat zA).2).2).1).toList == x5.2.2.1.toList) && (((((((x3.getD x7.toNat zA).2).2).2).1).toList == x5.2.2.2.1.toList) && ((((((x3.getD x7.toNat zA).2).2).2).2).toList == x5.2.2.2.2.toList))))) x7) (none))) (ifb (!x6) (ifb (decide ((x3.length + [x5].length) * 72 ≤ rowMax)) (spec_l13Affixes.L3 k k1 x0 (x3 ++ [x5]) (w64 (x4 - 1))) (none)) (spec_l13Affixes.L3 k k1 x0 x3 (w64 (x4 - 1)))) := by kernel_rfl
theorem spec_l13Affixes.J9_eq (k k1 k2 k3 : Nat) (x0 : List Int × Int) (x3 : List Aff) (x4 : Int) (x5 : Aff) (x6 : Bool) (x7 : Int) : spec_l13Affixes.J9 k k1 k2 (k3 + 1) x0 x3 x4 x5 x6 x7 = spec_l13Affixes.L8 k k1 k2 x0 x3 x4 x5 x6 (w64 (x7 + 1)) := by kernel_rfl
theorem spec_l13Affixes.ok (k : Nat) : CsOk Tryz.prog Jp (spec_l13Affixes.C k) := .cons (spec_l1Rd__pick.snd k) spec_l1Rd__pick.can <| .cons (spec_l13Affix.snd k) spec_l13Affix.can <| .nil
theorem spec_l13Affixes.can : Can Tryz.prog 84 := can_of (fn := Tryz.f84) (by kernel_rfl) (by kernel_rfl) (by kernel_rfl)
theorem spec_l13Affixes.snd (k : Nat) : Snd Tryz.prog Jp 84 ⟨spec_l13Affixes.ps, spec_l13Affixes.rs, spec_l13Affixes.F k⟩ := snd_of E_ok spec_l13Affixes.ok mixed (fn := Tryz.f84) (by kernel_rfl) (by kernel_rfl) (by kernel_rfl) k
noncomputable def spec_l1Rd__of.C (k : Nat) : CEs := [(28, ⟨spec_l1Rd__pick.ps, spec_l1Rd__pick.rs, spec_l1Rd__pick.F k⟩)]
abbrev spec_l1Rd__of.ps : List Par := [⟨t89, .bx .ro⟩, ⟨(.row .str), .rd⟩]
abbrev spec_l1Rd__of.rs : List Res := [⟨.str, .ro, false⟩]
def spec_l1Rd__of.H : Heads := []
noncomputable def spec_l1Rd__of.F : Nat → ProdT (spec_l1Rd__of.ps.map (·.τ)) → Option (ProdT (outs spec_l1Rd__of.ps spec_l1Rd__of.rs)) := evFn E spec_l1Rd__of.C spec_l1Rd__of.H Tryz.f70 spec_l1Rd__of.ps spec_l1Rd__of.rs
noncomputable def spec_l1Rd__of.f (k : Nat) (x0 : List Int × Int) (x1 : List ByteArray) : Option (ByteArray × (List Int × Int)) := spec_l1Rd__of.F k (x0, x1)
theorem spec_l1Rd__of.f_eq (k : Nat) (x0 : List Int × Int) (x1 : List ByteArray) : spec_l1Rd__of.f k x0 x1 = (spec_l1Rd__pick.f k x0 (x1.length : Int)).bind fun (r0 : Int × (List Int × Int)) => ifb (decide (0 ≤ r0.1) && decide (r0.1 < (x1.length : Int))) (some ((x1.getD r0.1.toNat bz), r0.2)) (none) := by kernel_rfl
theorem spec_l1Rd__of.ok (k : Nat) : CsOk Tryz.prog Jp (spec_l1Rd__of.C k) := .cons (spec_l1Rd__pick.snd k) spec_l1Rd__pick.can <| .nil
theorem spec_l1Rd__of.can : Can Tryz.prog 70 := can_of (fn := Tryz.f70) (by kernel_rfl) (by kernel_rfl) (by kernel_rfl)
theorem spec_l1Rd__of.snd (k : Nat) : Snd Tryz.prog Jp 70 ⟨spec_l1Rd__of.ps, spec_l1Rd__of.rs, spec_l1Rd__of.F k⟩ := snd_of E_ok spec_l1Rd__of.ok mixed (fn := Tryz.f70) (by kernel_rfl) (by kernel_rfl) (by kernel_rfl) k
noncomputable def spec_l1Least.C (k : Nat) : CEs := []
abbrev spec_l1Least.ps : List Par := [⟨(.int .i64), .rd⟩, ⟨(.int .i64), .rd⟩]
abbrev spec_l1Least.rs : List Res := [⟨(.int .i64), .ro, false⟩]
def spec_l1Least.H : Heads := []
noncomputable def spec_l1Least.F : Nat → ProdT (spec_l1Least.ps.map (·.τ)) → Option (ProdT (outs spec_l1Least.ps spec_l1Least.rs)) := evFn E spec_l1Least.C spec_l1Least.H Tryz.f114 spec_l1Least.ps spec_l1Least.rs
noncomputable def spec_l1Least.f (k : Nat) (x0 : Int) (x1 : Int) : Option (Int) := spec_l1Least.F k (x0, x1)
theorem spec_l1Least.f_eq (k : Nat) (x0 : Int) (x1 : Int) : spec_l1Least.f k x0 x1 = ifb (decide (x0 < x1)) (some x0) (some x1) := by kernel_rfl
theorem spec_l1Least.ok (k : Nat) : CsOk Tryz.prog Jp (spec_l1Least.C k) := .nil
theorem spec_l1Least.can : Can Tryz.prog 114 := can_of (fn := Tryz.f114) (by kernel_rfl) (by kernel_rfl) (by kernel_rfl)
theorem spec_l1Least.snd (k : Nat) : Snd Tryz.prog Jp 114 ⟨spec_l1Least.ps, spec_l1Least.rs, spec_l1Least.F k⟩ := snd_of E_ok spec_l1Least.ok mixed (fn := Tryz.f114) (by kernel_rfl) (by kernel_rfl) (by kernel_rfl) k
noncomputable def spec_l13Word.C (k : Nat) : CEs := [(28, ⟨spec_l1Rd__pick.ps, spec_l1Rd__pick.rs, spec_l1Rd__pick.F k⟩), (70, ⟨spec_l1Rd__of.ps, spec_l1Rd__of.rs, spec_l1Rd__of.F k⟩), (114, ⟨spec_l1Least.ps, spec_l1Least.rs, spec_l1Least.F k⟩)]
abbrev spec_l13Word.ps : List Par := [⟨t89, .bx .ro⟩]
abbrev spec_l13Word.rs : List Res := [⟨.str, .ro, false⟩]
def spec_l13Word.H : Heads := [(4, [(0, .ro), (3, .ro), (4, .ro)])]
noncomputable def spec_l13Word.F : Nat → ProdT (spec_l13Word.ps.map (·.τ)) → Option (ProdT (outs spec_l13Word.ps spec_l13Word.rs)) := evFn E spec_l13Word.C spec_l13Word.H Tryz.f85 spec_l13Word.ps spec_l13Word.rs
noncomputable def spec_l13Word.L4 (k k1 : Nat) (x0 : List Int × Int) (x3 : ByteArray) (x4 : Int) : Option (ByteArray × (List Int × Int)) := atL E spec_l13Word.C spec_l13Word.H Tryz.f85 spec_l13Word.ps spec_l13Word.rs [true, false, true, false, true, false, true, true] k [] k1 (sh 28 [(0, .box t89 x0 .ro none), (3, .d .str x3 .ro), (4, .d (.int .i64) x4 .ro)])
noncomputable def spec_l13Word.f (k : Nat) (x0 : List Int × Int) : Option (ByteArray × (List Int × Int)) := spec_l13Word.F k x0
theorem spec_l13Word.f_eq (k : Nat) (x0 : List Int × Int) : spec_l13Word.f k x0 = (spec_l1Rd__pick.f k x0 (3 : Int)).bind fun (r0 : Int × (List Int × Int)) => ifb (r0.1 == (0 : Int)) ((spec_l1Rd__pick.f k r0.2 (5 : Int)).bind fun (r1 : Int × (List Int × Int)) => spec_l13Word.L4 k k r1.2 bz (w64 ((1 : Int) + r1.1))) ((spec_l1Rd__of.f k r0.2 [(⟨#[99, 97, 116]⟩ : ByteArray), (⟨#[99, 97, 116, 115]⟩ : ByteArray), (⟨#[97, 99, 116]⟩ : ByteArray), (⟨#[100, 111]⟩ : ByteArray), (⟨#[100, 111, 105, 110, 103]⟩ : ByteArray), (⟨#[103, 111]⟩ : ByteArray), (⟨#[117, 110, 100, 111]⟩ : ByteArray), (⟨#[116, 114, 121]⟩ : ByteArray), (⟨#[116, 114, 105, 101, 115]⟩ : ByteArray), (⟨#[97]⟩ : ByteArray), (⟨#[98, 97, 107, 101]⟩ : ByteArray), (⟨#[98, 97, 107, 105, 110, 103]⟩ : ByteArray), (⟨#[116, 97, 99, 116]⟩ : ByteArray), (⟨#[99, 97, 114, 116]⟩ : ByteArray), (⟨#[97, 98, 99, 97, 98, 99, 97, 98, 99, 97, 98, 99]⟩ : ByteArray)]).bind fun (r2 : ByteArray × (List Int × Int)) => some (r2.1, r2.2)) := by kernel_rfl
theorem spec_l13Word.L4_eq (k k1 : Nat) (x0 : List Int × Int) (x3 : ByteArray) (x4 : Int) : spec_l13Word.L4 k (k1 + 1) x0 x3 x4 = ifb (decide (x4 > 0)) ((spec_l1Rd__of.f k1 x0 [(⟨#[97]⟩ : ByteArray), (⟨#[98]⟩ : ByteArray), (⟨#[99]⟩ : ByteArray), (⟨#[97, 98]⟩ : ByteArray), (⟨#[116]⟩ : ByteArray)]).bind fun (r3 : ByteArray × (List Int × Int)) => ifb (fitB (x3.size + r3.1.size)) (spec_l13Word.L4 k k1 r3.2 (x3 ++ r3.1) (w64 (x4 - 1))) (none)) ((spec_l1Least.f k (x3.size : Int) (12 : Int)).bind fun (r4 : Int) => ifb (decide (0 ≤ (0 : Int)) && (decide ((0 : Int) ≤ r4) && decide (r4 ≤ (x3.size : Int)))) (some ((x3.extract (0 : Int).toNat r4.toNat), x0)) (none)) := by kernel_rfl
theorem spec_l13Word.ok (k : Nat) : CsOk Tryz.prog Jp (spec_l13Word.C k) := .cons (spec_l1Rd__pick.snd k) spec_l1Rd__pick.can <| .cons (spec_l1Rd__of.snd k) spec_l1Rd__of.can <| .cons (spec_l1Least.snd k) spec_l1Least.can <| .nil
theorem spec_l13Word.can : Can Tryz.prog 85 := can_of (fn := Tryz.f85) (by kernel_rfl) (by kernel_rfl) (by kernel_rfl)
theorem spec_l13Word.snd (k : Nat) : Snd Tryz.prog Jp 85 ⟨spec_l13Word.ps, spec_l13Word.rs, spec_l13Word.F k⟩ := snd_of E_ok spec_l13Word.ok mixed (fn := Tryz.f85) (by kernel_rfl) (by kernel_rfl) (by kernel_rfl) k
noncomputable def spec_l1Put.C (k : Nat) : CEs := []
abbrev spec_l1Put.ps : List Par := [⟨(.row .str), .own (.own .ro)⟩, ⟨.str, .rd⟩]
abbrev spec_l1Put.rs : List Res := [⟨(.row .str), (.own .ro), false⟩]
def spec_l1Put.H : Heads := [(2, [(0, (.own .ro)), (1, .ro), (5, .ro)])]
noncomputable def spec_l1Put.F : Nat → ProdT (spec_l1Put.ps.map (·.τ)) → Option (ProdT (outs spec_l1Put.ps spec_l1Put.rs)) := evFn E spec_l1Put.C spec_l1Put.H Tryz.f45 spec_l1Put.ps spec_l1Put.rs
noncomputable def spec_l1Put.L2 (k k1 : Nat) (x0 : List ByteArray) (x1 : ByteArray) (x5 : Int) : Option (List ByteArray) := atL E spec_l1Put.C spec_l1Put.H Tryz.f45 spec_l1Put.ps spec_l1Put.rs [true, true, false, true] k [] k1 (sh 45 [(0, .d (.row .str) x0 (.own .ro)), (1, .d .str x1 .ro), (5, .d (.int .i64) x5 .ro)])
noncomputable def spec_l1Put.f (k : Nat) (x0 : List ByteArray) (x1 : ByteArray) : Option (List ByteArray) := spec_l1Put.F k (x0, x1)
theorem spec_l1Put.f_eq (k : Nat) (x0 : List ByteArray) (x1 : ByteArray) : spec_l1Put.f k x0 x1 = spec_l1Put.L2 k k x0 x1 (0 : Int) := by kernel_rfl
theorem spec_l1Put.L2_eq (k k1 : Nat) (x0 : List ByteArray) (x1 : ByteArray) (x5 : Int) : spec_l1Put.L2 k (k1 + 1) x0 x1 x5 = ifb (decide (x5 < (x0.length : Int))) (ifb (decide (0 ≤ x5) && decide (x5 < (x0.length : Int))) (ifb (Op.bytesLess (x0.getD x5.toNat bz).toList x1.toList) (spec_l1Put.L2 k k1 x0 x1 (w64 (x5 + 1))) (ifb (decide (x5 < (x0.length : Int))) (ifb (decide (0 ≤ x5) && decide (x5 < (x0.length : Int))) (ifb ((x0.getD x5.toNat bz).toList == x1.toList) (some x0) (ifb (decide (0 ≤ (0 : Int)) && (decide ((0 : Int) ≤ x5) && decide (x5 ≤ (x0.length : Int)))) (ifb (decide ((([] : List ByteArray).length + ((x0.take x5.toNat).drop (0 : Int).toNat).length) * 16 ≤ rowMax)) (ifb (decide (((([] : List ByteArray) ++ ((x0.take x5.toNat).drop (0 : Int).toNat)).length + [x1].length) * 16 ≤ rowMax)) (ifb (decide (0 ≤ x5) && (decide (x5 ≤ (x0.length : Int)) && decide ((x0.length : Int) ≤ (x0.length : Int)))) (ifb (decide ((((([] : List ByteArray) ++ ((x0.take x5.toNat).drop (0 : Int).toNat)) ++ [x1]).length + ((x0.take (x0.length : Int).toNat).drop x5.toNat).length) * 16 ≤ rowMax)) (some (((([] : List ByteArray) ++ ((x0.take x5.toNat).drop (0 : Int).toNat)) ++ [x1]) ++ ((x0.take (x0.length : Int).toNat).drop x5.toNat))) (none)) (none)) (none)) (none)) (none))) (none)) (ifb (decide (0 ≤ (0 : Int)) && (decide ((0 : Int) ≤ x5) && decide (x5 ≤ (x0.length : Int)))) (ifb (decide ((([] : List ByteArray).length + ((x0.take x5.toNat).drop (0 : Int).toNat).length) * 16 ≤ rowMax)) (ifb (decide (((([] : List ByteArray) ++ ((x0.take x5.toNat).drop (0 : Int).toNat)).length + [x1].length) * 16 ≤ rowMax)) (ifb (decide (0 ≤ x5) && (decide (x5 ≤ (x0.length : Int)) && decide ((x0.length : Int) ≤ (x0.length : Int)))) (ifb (decide ((((([] : List ByteArray) ++ ((x0.take x5.toNat).drop (0 : Int).toNat)) ++ [x1]).length + ((x0.take (x0.length : Int).toNat).drop x5.toNat).length) * 16 ≤ rowMax)) (some (((([] : List ByteArray) ++ ((x0.take x5.toNat).drop (0 : Int).toNat)) ++ [x1]) ++ ((x0.take (x0.length : Int).toNat).drop x5.toNat))) (none)) (none)) (none)) (none)) (none)))) (none)) (ifb (decide (x5 < (x0.length : Int))) (ifb (decide (0 ≤ x5) && decide (x5 < (x0.length : Int))) (ifb ((x0.getD x5.toNat bz).toList == x1.toList) (some x0) (ifb (decide (0 ≤ (0 : Int)) && (decide ((0 : Int) ≤ x5) && decide (x5 ≤ (x0.length : Int)))) (ifb (decide ((([] : List ByteArray).length + ((x0.take x5.toNat).drop (0 : Int).toNat).length) * 16 ≤ rowMax)) (ifb (decide (((([] : List ByteArray) ++ ((x0.take x5.toNat).drop (0 : Int).toNat)).length + [x1].length) * 16 ≤ rowMax)) (ifb (decide (0 ≤ x5) && (decide (x5 ≤ (x0.length : Int)) && decide ((x0.length : Int) ≤ (x0.length : Int)))) (ifb (decide ((((([] : List ByteArray) ++ ((x0.take x5.toNat).drop (0 : Int).toNat)) ++ [x1]).length + ((x0.take (x0.length : Int).toNat).drop x5.toNat).length) * 16 ≤ rowMax)) (some (((([] : List ByteArray) ++ ((x0.take x5.toNat).drop (0 : Int).toNat)) ++ [x1]) ++ ((x0.take (x0.length : Int).toNat).drop x5.toNat))) (none)) (none)) (none)) (none)) (none))) (none)) (ifb (decide (0 ≤ (0 : Int)) && (decide ((0 : Int) ≤ x5) && decide (x5 ≤ (x0.length : Int)))) (ifb (decide ((([] : List ByteArray).length + ((x0.take x5.toNat).drop (0 : Int).toNat).length) * 16 ≤ rowMax)) (ifb (decide (((([] : List ByteArray) ++ ((x0.take x5.toNat).drop (0 : Int).toNat)).length + [x1].length) * 16 ≤ rowMax)) (ifb (decide (0 ≤ x5) && (decide (x5 ≤ (x0.length : Int)) && decide ((x0.length : Int) ≤ (x0.length : Int)))) (ifb (decide ((((([] : List ByteArray) ++ ((x0.take x5.toNat).drop (0 : Int).toNat)) ++ [x1]).length + ((x0.take (x0.length : Int).toNat).drop x5.toNat).length) * 16 ≤ rowMax)) (some (((([] : List ByteArray) ++ ((x0.take x5.toNat).drop (0 : Int).toNat)) ++ [x1]) ++ ((x0.take (x0.length : Int).toNat).drop x5.toNat))) (none)) (none)) (none)) (none)) (none))) := by kernel_rfl
theorem spec_l1Put.ok (k : Nat) : CsOk Tryz.prog Jp (spec_l1Put.C k) := .nil
theorem spec_l1Put.can : Can Tryz.prog 45 := can_of (fn := Tryz.f45) (by kernel_rfl) (by kernel_rfl) (by kernel_rfl)
theorem spec_l1Put.snd (k : Nat) : Snd Tryz.prog Jp 45 ⟨spec_l1Put.ps, spec_l1Put.rs, spec_l1Put.F k⟩ := snd_of E_ok spec_l1Put.ok mixed (fn := Tryz.f45) (by kernel_rfl) (by kernel_rfl) (by kernel_rfl) k
noncomputable def spec_l13Entry.C (k : Nat) : CEs := [(70, ⟨spec_l1Rd__of.ps, spec_l1Rd__of.rs, spec_l1Rd__of.F k⟩)]
abbrev spec_l13Entry.ps : List Par := [⟨t89, .bx .ro⟩, ⟨.str, .rd⟩]
abbrev spec_l13Entry.rs : List Res := [⟨t37, .ro, false⟩]
def spec_l13Entry.H : Heads := []
noncomputable def spec_l13Entry.F : Nat → ProdT (spec_l13Entry.ps.map (·.τ)) → Option (ProdT (outs spec_l13Entry.ps spec_l13Entry.rs)) := evFn E spec_l13Entry.C spec_l13Entry.H Tryz.f83 spec_l13Entry.ps spec_l13Entry.rs
noncomputable def spec_l13Entry.f (k : Nat) (x0 : List Int × Int) (x1 : ByteArray) : Option (En × (List Int × Int)) := spec_l13Entry.F k (x0, x1)
theorem spec_l13Entry.f_eq (k : Nat) (x0 : List Int × Int) (x1 : ByteArray) : spec_l13Entry.f k x0 x1 = (spec_l1Rd__of.f k x0 [bz, bz, (⟨#[83]⟩ : ByteArray), (⟨#[71, 83]⟩ : ByteArray), (⟨#[85]⟩ : ByteArray), (⟨#[71, 85]⟩ : ByteArray), (⟨#[82]⟩ : ByteArray), (⟨#[84]⟩ : ByteArray), (⟨#[67, 82, 83, 85]⟩ : ByteArray)]).bind fun (r0 : ByteArray × (List Int × Int)) => some ((x1, r0.1), r0.2) := by kernel_rfl
theorem spec_l13Entry.ok (k : Nat) : CsOk Tryz.prog Jp (spec_l13Entry.C k) := .cons (spec_l1Rd__of.snd k) spec_l1Rd__of.can <| .nil
theorem spec_l13Entry.can : Can Tryz.prog 83 := can_of (fn := Tryz.f83) (by kernel_rfl) (by kernel_rfl) (by kernel_rfl)
theorem spec_l13Entry.snd (k : Nat) : Snd Tryz.prog Jp 83 ⟨spec_l13Entry.ps, spec_l13Entry.rs, spec_l13Entry.F k⟩ := snd_of E_ok spec_l13Entry.ok mixed (fn := Tryz.f83) (by kernel_rfl) (by kernel_rfl) (by kernel_rfl) k
noncomputable def spec_l13Book.C (k : Nat) : CEs := [(28, ⟨spec_l1Rd__pick.ps, spec_l1Rd__pick.rs, spec_l1Rd__pick.F k⟩), (84, ⟨spec_l13Affixes.ps, spec_l13Affixes.rs, spec_l13Affixes.F k⟩), (85, ⟨spec_l13Word.ps, spec_l13Word.rs, spec_l13Word.F k⟩), (45, ⟨spec_l1Put.ps, spec_l1Put.rs, spec_l1Put.F k⟩), (83, ⟨spec_l13Entry.ps, spec_l13Entry.rs, spec_l13Entry.F k⟩)]
abbrev spec_l13Book.ps : List Par := [⟨t89, .bx .ro⟩]
abbrev spec_l13Book.rs : List Res := [⟨t25, (.pr (.own .ro) (.own .ro)), false⟩]
def spec_l13Book.H : Heads := [(4, [(0, .ro), (2, (.pr (.own .ro) (.own .ro))), (3, (.pr (.own .ro) (.own .ro))), (4, (.own .ro)), (5, .ro)]), (9, [(0, .ro), (2, (.pr (.own .ro) (.own .ro))), (3, (.pr (.own .ro) (.own .ro))), (4, (.own .ro)), (6, .ro)]), (12, [(0, .ro), (2, (.pr (.own .ro) (.own .ro))), (3, (.pr (.own .ro) (.own .ro))), (4, (.own .ro))]), (13, [(0, .ro), (2, (.pr (.own .ro) (.own .ro))), (3, (.pr (.own .ro) (.own .ro))), (4, (.own .ro)), (7, .ro)])]
noncomputable def spec_l13Book.F : Nat → ProdT (spec_l13Book.ps.map (·.τ)) → Option (ProdT (outs spec_l13Book.ps spec_l13Book.rs)) := evFn E spec_l13Book.C spec_l13Book.H Tryz.f47 spec_l13Book.ps spec_l13Book.rs
noncomputable def spec_l13Book.L4 (k k1 : Nat) (x0 : List Int × Int) (x2 : Book) (x3 : Book) (x4 : List ByteArray) (x5 : Int) : Option (Book × (List Int × Int)) := atL E spec_l13Book.C spec_l13Book.H Tryz.f47 spec_l13Book.ps spec_l13Book.rs [true, true, true, false, true, true] k [] k1 (sh 56 [(0, .box t89 x0 .ro none), (2, .box t25 x2 (.pr (.own .ro) (.own .ro)) none), (3, .box t25 x3 (.pr (.own .ro) (.own .ro)) none), (4, .d (.row .str) x4 (.own .ro)), (5, .d (.int .i64) x5 .ro)])
noncomputable def spec_l13Book.L9 (k k1 : Nat) (x0 : List Int × Int) (x2 : Book) (x3 : Book) (x4 : List ByteArray) (x6 : Int) : Option (Book × (List Int × Int)) := atL E spec_l13Book.C spec_l13Book.H Tryz.f47 spec_l13Book.ps spec_l13Book.rs [true, true, true, true, false, true, false, true, true] k [] k1 (sh 56 [(0, .box t89 x0 .ro none), (2, .box t25 x2 (.pr (.own .ro) (.own .ro)) none), (3, .box t25 x3 (.pr (.own .ro) (.own .ro)) none), (4, .d (.row .str) x4 (.own .ro)), (6, .d (.int .i64) x6 .ro)])
noncomputable def spec_l13Book.J12 (k : Nat) (x0 : List Int × Int) (x2 : Book) (x3 : Book) (x4 : List ByteArray) : Option (Book × (List Int × Int)) := atJ E spec_l13Book.C spec_l13Book.H Tryz.f47 spec_l13Book.ps spec_l13Book.rs [true, true, true, true, true] 0 [] k (sh 56 [(0, .box t89 x0 .ro none), (2, .box t25 x2 (.pr (.own .ro) (.own .ro)) none), (3, .box t25 x3 (.pr (.own .ro) (.own .ro)) none), (4, .d (.row .str) x4 (.own .ro))])
noncomputable def spec_l13Book.L13 (k k1 : Nat) (x0 : List Int × Int) (x2 : Book) (x3 : Book) (x4 : List ByteArray) (x7 : Int) : Option (Book × (List Int × Int)) := atL E spec_l13Book.C spec_l13Book.H Tryz.f47 spec_l13Book.ps spec_l13Book.rs [true, true, true, true, true, false, true, true] 0 [k] k1 (sh 56 [(0, .box t89 x0 .ro none), (2, .box t25 x2 (.pr (.own .ro) (.own .ro)) none), (3, .box t25 x3 (.pr (.own .ro) (.own .ro)) none), (4, .d (.row .str) x4 (.own .ro)), (7, .d (.int .i64) x7 .ro)])
noncomputable def spec_l13Book.f (k : Nat) (x0 : List Int × Int) : Option (Book × (List Int × Int)) := spec_l13Book.F k x0
theorem spec_l13Book.f_eq (k : Nat) (x0 : List Int × Int) : spec_l13Book.f k x0 = (spec_l13Affixes.f k x0).bind fun (r0 : List Aff × (List Int × Int)) => (spec_l1Rd__pick.f k r0.2 (7 : Int)).bind fun (r1 : Int × (List Int × Int)) => spec_l13Book.L4 k k r1.2 (([] : List Aff), ([] : List En)) (r0.1, ([] : List En)) ([] : List ByteArray) r1.1 := by kernel_rfl
theorem spec_l13Book.L4_eq (k k1 : Nat) (x0 : List Int × Int) (x2 : Book) (x3 : Book) (x4 : List ByteArray) (x5 : Int) : spec_l13Book.L4 k (k1 + 1) x0 x2 x3 x4 x5 = ifb (decide (x5 > 0)) ((spec_l13Word.f k1 x0).bind fun (r2 : ByteArray × (List Int × Int)) => (spec_l1Put.f k1 x4 r2.1).bind fun (r3 : List ByteArray) => spec_l13Book.L4 k k1 r2.2 x2 x3 r3 (w64 (x5 - 1))) ((spec_l1Rd__pick.f k x0 (30 : Int)).bind fun (r4 : Int × (List Int × Int)) => ifb (r4.1 == (0 : Int)) (spec_l13Book.L9 k k r4.2 x2 x3 x4 (0 : Int)) (spec_l13Book.J12 k r4.2 x2 x3 x4)) := by kernel_rfl
theorem spec_l13Book.L9_eq (k k1 : Nat) (x0 : List Int × Int) (x2 : Book) (x3 : Book) (x4 : List ByteArray) (x6 : Int) : spec_l13Book.L9 k (k1 + 1) x0 x2 x3 x4 x6 = ifb (decide ((x4.length : Int) < (24 : Int))) (ifb (fitB ((⟨#[119]⟩ : ByteArray).size + (strOf [(IntKind.u8.wrap (w64 ((97 : Int) + x6)))]).size)) ((spec_l1Put.f k1 x4 ((⟨#[119]⟩ : ByteArray) ++ (strOf [(IntKind.u8.wrap (w64 ((97 : Int) + x6)))]))).bind fun (r5 : List ByteArray) => spec_l13Book.L9 k k1 x0 x2 x3 r5 (w64 (x6 + 1))) (none)) (spec_l13Book.J12 k x0 x2 x3 x4) := by kernel_rfl
theorem spec_l13Book.J12_eq (k : Nat) (x0 : List Int × Int) (x2 : Book) (x3 : Book) (x4 : List ByteArray) : spec_l13Book.J12 (k + 1) x0 x2 x3 x4 = spec_l13Book.L13 k k x0 x2 x3 x4 (0 : Int) := by kernel_rfl
theorem spec_l13Book.L13_eq (k k1 : Nat) (x0 : List Int × Int) (x2 : Book) (x3 : Book) (x4 : List ByteArray) (x7 : Int) : spec_l13Book.L13 k (k1 + 1) x0 x2 x3 x4 x7 = ifb (decide (x7 < (x4.length : Int))) (ifb (decide (0 ≤ x7) && decide (x7 < (x4.length : Int))) ((spec_l13Entry.f k1 x0 (x4.getD x7.toNat bz)).bind fun (r6 : En × (List Int × Int)) => ifb (decide ((x3.2.length + [r6.1].length) * 32 ≤ rowMax)) (spec_l13Book.L13 k k1 r6.2 x2 (x3.1, (x3.2 ++ [r6.1])) x4 (w64 (x7 + 1))) (none)) (none)) (some (x3, x0)) := by kernel_rfl
theorem spec_l13Book.ok (k : Nat) : CsOk Tryz.prog Jp (spec_l13Book.C k) := .cons (spec_l1Rd__pick.snd k) spec_l1Rd__pick.can <| .cons (spec_l13Affixes.snd k) spec_l13Affixes.can <| .cons (spec_l13Word.snd k) spec_l13Word.can <| .cons (spec_l1Put.snd k) spec_l1Put.can <| .cons (spec_l13Entry.snd k) spec_l13Entry.can <| .nil
theorem spec_l13Book.can : Can Tryz.prog 47 := can_of (fn := Tryz.f47) (by kernel_rfl) (by kernel_rfl) (by kernel_rfl)
theorem spec_l13Book.snd (k : Nat) : Snd Tryz.prog Jp 47 ⟨spec_l13Book.ps, spec_l13Book.rs, spec_l13Book.F k⟩ := snd_of E_ok spec_l13Book.ok mixed (fn := Tryz.f47) (by kernel_rfl) (by kernel_rfl) (by kernel_rfl) k
noncomputable def spec_l13AnyAffix.C (k : Nat) : CEs := [(28, ⟨spec_l1Rd__pick.ps, spec_l1Rd__pick.rs, spec_l1Rd__pick.F k⟩), (98, ⟨spec_l13Affix.ps, spec_l13Affix.rs, spec_l13Affix.F k⟩), (70, ⟨spec_l1Rd__of.ps, spec_l1Rd__of.rs, spec_l1Rd__of.F k⟩)]
abbrev spec_l13AnyAffix.ps : List Par := [⟨t89, .bx .ro⟩]
abbrev spec_l13AnyAffix.rs : List Res := [⟨t66, .ro, false⟩]
def spec_l13AnyAffix.H : Heads := []
noncomputable def spec_l13AnyAffix.F : Nat → ProdT (spec_l13AnyAffix.ps.map (·.τ)) → Option (ProdT (outs spec_l13AnyAffix.ps spec_l13AnyAffix.rs)) := evFn E spec_l13AnyAffix.C spec_l13AnyAffix.H Tryz.f68 spec_l13AnyAffix.ps spec_l13AnyAffix.rs
noncomputable def spec_l13AnyAffix.f (k : Nat) (x0 : List Int × Int) : Option ((Aff) × (List Int × Int)) := spec_l13AnyAffix.F k x0
theorem spec_l13AnyAffix.f_eq (k : Nat) (x0 : List Int × Int) : spec_l13AnyAffix.f k x0 = (spec_l13Affix.f k x0).bind fun (r0 : (Aff) × (List Int × Int)) => (spec_l1Rd__pick.f k r0.2 (12 : Int)).bind fun (r1 : Int × (List Int × Int)) => ifb (r1.1 == (0 : Int)) ((spec_l1Rd__of.f k r1.2 [bz, (⟨#[115]⟩ : ByteArray), (⟨#[65, 66]⟩ : ByteArray), (⟨#[90]⟩ : ByteArray)]).bind fun (r2 : ByteArray × (List Int × Int)) => some ((r2.1, r0.1.2), r2.2)) (ifb (r1.1 == (1 : Int)) ((spec_l1Rd__of.f k r1.2 [(⟨#[121]⟩ : ByteArray), (⟨#[97, 98, 99, 100, 101]⟩ : ByteArray), bz, (⟨#[89]⟩ : ByteArray)]).bind fun (r3 : ByteArray × (List Int × Int)) => some ((r0.1.1, r0.1.2.1, r3.1, r0.1.2.2.2), r3.2)) (ifb (r1.1 == (2 : Int)) ((spec_l1Rd__of.f k r1.2 [(⟨#[121]⟩ : ByteArray), (⟨#[116, 121]⟩ : ByteArray), (⟨#[97, 98, 99, 100, 101]⟩ : ByteArray), bz]).bind fun (r4 : ByteArray × (List Int × Int)) => some ((r0.1.1, r0.1.2.1, r0.1.2.2.1, r0.1.2.2.2.1, r4.1), r4.2)) (ifb (r1.1 == (3 : Int)) (some ((r0.1.1, (!r0.1.2.1), r0.1.2.2), r1.2)) (some (r0.1, r1.2))))) := by kernel_rfl
theorem spec_l13AnyAffix.ok (k : Nat) : CsOk Tryz.prog Jp (spec_l13AnyAffix.C k) := .cons (spec_l1Rd__pick.snd k) spec_l1Rd__pick.can <| .cons (spec_l13Affix.snd k) spec_l13Affix.can <| .cons (spec_l1Rd__of.snd k) spec_l1Rd__of.can <| .nil
theorem spec_l13AnyAffix.can : Can Tryz.prog 68 := can_of (fn := Tryz.f68) (by kernel_rfl) (by kernel_rfl) (by kernel_rfl)
theorem spec_l13AnyAffix.snd (k : Nat) : Snd Tryz.prog Jp 68 ⟨spec_l13AnyAffix.ps, spec_l13AnyAffix.rs, spec_l13AnyAffix.F k⟩ := snd_of E_ok spec_l13AnyAffix.ok mixed (fn := Tryz.f68) (by kernel_rfl) (by kernel_rfl) (by kernel_rfl) k
noncomputable def spec_l13AnyWord.C (k : Nat) : CEs := [(28, ⟨spec_l1Rd__pick.ps, spec_l1Rd__pick.rs, spec_l1Rd__pick.F k⟩), (70, ⟨spec_l1Rd__of.ps, spec_l1Rd__of.rs, spec_l1Rd__of.F k⟩), (85, ⟨spec_l13Word.ps, spec_l13Word.rs, spec_l13Word.F k⟩)]
abbrev spec_l13AnyWord.ps : List Par := [⟨t89, .bx .ro⟩]
abbrev spec_l13AnyWord.rs : List Res := [⟨.str, .ro, false⟩]
def spec_l13AnyWord.H : Heads := []
noncomputable def spec_l13AnyWord.F : Nat → ProdT (spec_l13AnyWord.ps.map (·.τ)) → Option (ProdT (outs spec_l13AnyWord.ps spec_l13AnyWord.rs)) := evFn E spec_l13AnyWord.C spec_l13AnyWord.H Tryz.f69 spec_l13AnyWord.ps spec_l13AnyWord.rs
noncomputable def spec_l13AnyWord.f (k : Nat) (x0 : List Int × Int) : Option (ByteArray × (List Int × Int)) := spec_l13AnyWord.F k x0
theorem spec_l13AnyWord.f_eq (k : Nat) (x0 : List Int × Int) : spec_l13AnyWord.f k x0 = (spec_l1Rd__pick.f k x0 (16 : Int)).bind fun (r0 : Int × (List Int × Int)) => ifb (r0.1 == (0 : Int)) ((spec_l1Rd__of.f k r0.2 [bz, (⟨#[67, 97, 116]⟩ : ByteArray), (⟨#[97, 32, 98]⟩ : ByteArray), (⟨#[97, 98, 99, 97, 98, 99, 97, 98, 99, 97, 98, 99, 97]⟩ : ByteArray), (⟨#[120, 49]⟩ : ByteArray), (⟨#[45]⟩ : ByteArray)]).bind fun (r1 : ByteArray × (List Int × Int)) => some (r1.1, r1.2)) ((spec_l13Word.f k r0.2).bind fun (r2 : ByteArray × (List Int × Int)) => some (r2.1, r2.2)) := by kernel_rfl
theorem spec_l13AnyWord.ok (k : Nat) : CsOk Tryz.prog Jp (spec_l13AnyWord.C k) := .cons (spec_l1Rd__pick.snd k) spec_l1Rd__pick.can <| .cons (spec_l1Rd__of.snd k) spec_l1Rd__of.can <| .cons (spec_l13Word.snd k) spec_l13Word.can <| .nil
theorem spec_l13AnyWord.can : Can Tryz.prog 69 := can_of (fn := Tryz.f69) (by kernel_rfl) (by kernel_rfl) (by kernel_rfl)
theorem spec_l13AnyWord.snd (k : Nat) : Snd Tryz.prog Jp 69 ⟨spec_l13AnyWord.ps, spec_l13AnyWord.rs, spec_l13AnyWord.F k⟩ := snd_of E_ok spec_l13AnyWord.ok mixed (fn := Tryz.f69) (by kernel_rfl) (by kernel_rfl) (by kernel_rfl) k
noncomputable def spec_l13AnyBook.C (k : Nat) : CEs := [(28, ⟨spec_l1Rd__pick.ps, spec_l1Rd__pick.rs, spec_l1Rd__pick.F k⟩), (70, ⟨spec_l1Rd__of.ps, spec_l1Rd__of.rs, spec_l1Rd__of.F k⟩), (47, ⟨spec_l13Book.ps, spec_l13Book.rs, spec_l13Book.F k⟩), (68, ⟨spec_l13AnyAffix.ps, spec_l13AnyAffix.rs, spec_l13AnyAffix.F k⟩), (69, ⟨spec_l13AnyWord.ps, spec_l13AnyWord.rs, spec_l13AnyWord.F k⟩)]
abbrev spec_l13AnyBook.ps : List Par := [⟨t89, .bx .ro⟩]
abbrev spec_l13AnyBook.rs : List Res := [⟨t25, (.pr (.own .ro) (.own .ro)), false⟩]
def spec_l13AnyBook.H : Heads := []
noncomputable def spec_l13AnyBook.F : Nat → ProdT (spec_l13AnyBook.ps.map (·.τ)) → Option (ProdT (outs spec_l13AnyBook.ps spec_l13AnyBook.rs)) := evFn E spec_l13AnyBook.C spec_l13AnyBook.H Tryz.f27 spec_l13AnyBook.ps spec_l13AnyBook.rs
noncomputable def spec_l13AnyBook.f (k : Nat) (x0 : List Int × Int) : Option (Book × (List Int × Int)) := spec_l13AnyBook.F k x0
theorem spec_l13AnyBook.f_eq (k : Nat) (x0 : List Int × Int) : spec_l13AnyBook.f k x0 = (spec_l13Book.f k x0).bind fun (r0 : Book × (List Int × Int)) => (spec_l1Rd__pick.f k r0.2 (16 : Int)).bind fun (r1 : Int × (List Int × Int)) => ifb (r1.1 == (0 : Int)) ((spec_l13AnyAffix.f k r1.2).bind fun (r2 : (Aff) × (List Int × Int)) => ifb (decide ((r0.1.1.length + [r2.1].length) * 72 ≤ rowMax)) (some (((r0.1.1 ++ [r2.1]), r0.1.2), r2.2)) (none)) (ifb (r1.1 == (1 : Int)) ((spec_l13AnyWord.f k r1.2).bind fun (r3 : ByteArray × (List Int × Int)) => (spec_l1Rd__of.f k r3.2 [bz, (⟨#[83, 71]⟩ : ByteArray), (⟨#[115]⟩ : ByteArray), (⟨#[65, 66, 67, 68, 69]⟩ : ByteArray)]).bind fun (r4 : ByteArray × (List Int × Int)) => ifb (decide ((r0.1.2.length + [(r3.1, r4.1)].length) * 32 ≤ rowMax)) (some ((r0.1.1, (r0.1.2 ++ [(r3.1, r4.1)])), r4.2)) (none)) (ifb (r1.1 == (2 : Int)) (ifb (decide ((r0.1.2.length : Int) > 0)) ((spec_l1Rd__of.f k r1.2 [bz, (⟨#[122, 122]⟩ : ByteArray), (⟨#[65]⟩ : ByteArray)]).bind fun (r5 : ByteArray × (List Int × Int)) => ifb (decide (0 ≤ (0 : Int)) && decide ((0 : Int) < (r0.1.2.length : Int))) (some ((r0.1.1, (r0.1.2.set ((0 : Int).toNat) (r5.1, (r0.1.2.getD ((0 : Int).toNat) zE).2))), r5.2)) (none)) (some (r0.1, r1.2))) (some (r0.1, r1.2)))) := by kernel_rfl
theorem spec_l13AnyBook.ok (k : Nat) : CsOk Tryz.prog Jp (spec_l13AnyBook.C k) := .cons (spec_l1Rd__pick.snd k) spec_l1Rd__pick.can <| .cons (spec_l1Rd__of.snd k) spec_l1Rd__of.can <| .cons (spec_l13Book.snd k) spec_l13Book.can <| .cons (spec_l13AnyAffix.snd k) spec_l13AnyAffix.can <| .cons (spec_l13AnyWord.snd k) spec_l13AnyWord.can <| .nil
theorem spec_l13AnyBook.can : Can Tryz.prog 27 := can_of (fn := Tryz.f27) (by kernel_rfl) (by kernel_rfl) (by kernel_rfl)
theorem spec_l13AnyBook.snd (k : Nat) : Snd Tryz.prog Jp 27 ⟨spec_l13AnyBook.ps, spec_l13AnyBook.rs, spec_l13AnyBook.F k⟩ := snd_of E_ok spec_l13AnyBook.ok mixed (fn := Tryz.f27) (by kernel_rfl) (by kernel_rfl) (by kernel_rfl) k
noncomputable def spec_l5Book.C (k : Nat) : CEs := []
abbrev spec_l5Book.ps : List Par := [⟨t25, .rd⟩]
abbrev spec_l5Book.rs : List Res := [⟨t25, (.pr (.own .ro) (.own .ro)), false⟩]
def spec_l5Book.H : Heads := []
noncomputable def spec_l5Book.F : Nat → ProdT (spec_l5Book.ps.map (·.τ)) → Option (ProdT (outs spec_l5Book.ps spec_l5Book.rs)) := evFn E spec_l5Book.C spec_l5Book.H Tryz.f29 spec_l5Book.ps spec_l5Book.rs
noncomputable def spec_l5Book.f (k : Nat) (x0 : Book) : Option Book := spec_l5Book.F k x0
theorem spec_l5Book.f_eq (k : Nat) (x0 : Book) : spec_l5Book.f k x0 = ifb (decide ((([] : List Aff).length + x0.1.length) * 72 ≤ rowMax)) (ifb (decide ((([] : List En).length + x0.2.length) * 32 ≤ rowMax)) (some ((([] : List Aff) ++ x0.1), (([] : List En) ++ x0.2))) (none)) (none) := by kernel_rfl
theorem spec_l5Book.ok (k : Nat) : CsOk Tryz.prog Jp (spec_l5Book.C k) := .nil
theorem spec_l5Book.can : Can Tryz.prog 29 := can_of (fn := Tryz.f29) (by kernel_rfl) (by kernel_rfl) (by kernel_rfl)
theorem spec_l5Book.snd (k : Nat) : Snd Tryz.prog Jp 29 ⟨spec_l5Book.ps, spec_l5Book.rs, spec_l5Book.F k⟩ := snd_of E_ok spec_l5Book.ok mixed (fn := Tryz.f29) (by kernel_rfl) (by kernel_rfl) (by kernel_rfl) k
noncomputable def spec_DrawDeltaOf.C (k : Nat) : CEs := [(26, ⟨spec_l1Open.ps, spec_l1Open.rs, spec_l1Open.F k⟩), (28, ⟨spec_l1Rd__pick.ps, spec_l1Rd__pick.rs, spec_l1Rd__pick.F k⟩), (27, ⟨spec_l13AnyBook.ps, spec_l13AnyBook.rs, spec_l13AnyBook.F k⟩), (29, ⟨spec_l5Book.ps, spec_l5Book.rs, spec_l5Book.F k⟩)]
abbrev spec_DrawDeltaOf.ps : List Par := [⟨t22, .rd⟩]
abbrev spec_DrawDeltaOf.rs : List Res := [⟨t25, (.pr (.own .ro) (.own .ro)), false⟩, ⟨t25, (.pr (.own .ro) (.own .ro)), false⟩]
def spec_DrawDeltaOf.H : Heads := []
noncomputable def spec_DrawDeltaOf.F : Nat → ProdT (spec_DrawDeltaOf.ps.map (·.τ)) → Option (ProdT (outs spec_DrawDeltaOf.ps spec_DrawDeltaOf.rs)) := evFn E spec_DrawDeltaOf.C spec_DrawDeltaOf.H Tryz.f6 spec_DrawDeltaOf.ps spec_DrawDeltaOf.rs
noncomputable def spec_DrawDeltaOf.f (k : Nat) (x0 : List Int) : Option (Book × Book) := spec_DrawDeltaOf.F k x0
theorem spec_DrawDeltaOf.f_eq (k : Nat) (x0 : List Int) : spec_DrawDeltaOf.f k x0 = (spec_l1Open.f k x0).bind fun (r0 : List Int × Int) => (spec_l13AnyBook.f k r0).bind fun (r1 : Book × (List Int × Int)) => (spec_l1Rd__pick.f k r1.2 (4 : Int)).bind fun (r2 : Int × (List Int × Int)) => ifb (r2.1 == (0 : Int)) ((spec_l5Book.f k r1.1).bind fun (r3 : Book) => some (r1.1, r3)) ((spec_l13AnyBook.f k r2.2).bind fun (r4 : Book × (List Int × Int)) => some (r1.1, r4.1)) := by kernel_rfl
theorem spec_DrawDeltaOf.ok (k : Nat) : CsOk Tryz.prog Jp (spec_DrawDeltaOf.C k) := .cons (spec_l1Open.snd k) spec_l1Open.can <| .cons (spec_l1Rd__pick.snd k) spec_l1Rd__pick.can <| .cons (spec_l13AnyBook.snd k) spec_l13AnyBook.can <| .cons (spec_l5Book.snd k) spec_l5Book.can <| .nil
theorem spec_DrawDeltaOf.can : Can Tryz.prog 6 := can_of (fn := Tryz.f6) (by kernel_rfl) (by kernel_rfl) (by kernel_rfl)
theorem spec_DrawDeltaOf.snd (k : Nat) : Snd Tryz.prog Jp 6 ⟨spec_DrawDeltaOf.ps, spec_DrawDeltaOf.rs, spec_DrawDeltaOf.F k⟩ := snd_of E_ok spec_DrawDeltaOf.ok mixed (fn := Tryz.f6) (by kernel_rfl) (by kernel_rfl) (by kernel_rfl) k
noncomputable def impl_upper.C (k : Nat) : CEs := []
abbrev impl_upper.ps : List Par := [⟨(.int .u8), .rd⟩]
abbrev impl_upper.rs : List Res := [⟨.bool, .ro, false⟩]
def impl_upper.H : Heads := []
noncomputable def impl_upper.F : Nat → ProdT (impl_upper.ps.map (·.τ)) → Option (ProdT (outs impl_upper.ps impl_upper.rs)) := evFn E impl_upper.C impl_upper.H Tryz.f117 impl_upper.ps impl_upper.rs
noncomputable def impl_upper.f (k : Nat) (x0 : Int) : Option (Bool) := impl_upper.F k x0
theorem impl_upper.f_eq (k : Nat) (x0 : Int) : impl_upper.f k x0 = ifb (decide (x0 ≥ (65 : Int))) (some (decide (x0 ≤ (90 : Int)))) (some false) := by kernel_rfl
theorem impl_upper.ok (k : Nat) : CsOk Tryz.prog Jp (impl_upper.C k) := .nil
theorem impl_upper.can : Can Tryz.prog 117 := can_of (fn := Tryz.f117) (by kernel_rfl) (by kernel_rfl) (by kernel_rfl)
theorem impl_upper.snd (k : Nat) : Snd Tryz.prog Jp 117 ⟨impl_upper.ps, impl_upper.rs, impl_upper.F k⟩ := snd_of E_ok impl_upper.ok mixed (fn := Tryz.f117) (by kernel_rfl) (by kernel_rfl) (by kernel_rfl) k
noncomputable def impl_lower.C (k : Nat) : CEs := []
abbrev impl_lower.ps : List Par := [⟨.str, .rd⟩]
abbrev impl_lower.rs : List Res := [⟨.bool, .ro, false⟩]
def impl_lower.H : Heads := [(2, [(0, .ro), (5, .ro), (6, .ro)])]
noncomputable def impl_lower.F : Nat → ProdT (impl_lower.ps.map (·.τ)) → Option (ProdT (outs impl_lower.ps impl_lower.rs)) := evFn E impl_lower.C impl_lower.H Tryz.f116 impl_lower.ps impl_lower.rs
noncomputable def impl_lower.L2 (k k1 : Nat) (x0 : ByteArray) (x5 : Int) (x6 : Int) : Option (Bool) := atL E impl_lower.C impl_lower.H Tryz.f116 impl_lower.ps impl_lower.rs [true, false, true, true] k [] k1 (sh 20 [(0, .d .str x0 .ro), (5, .d (.int .i64) x5 .ro), (6, .d (.int .i64) x6 .ro)])
noncomputable def impl_lower.f (k : Nat) (x0 : ByteArray) : Option (Bool) := impl_lower.F k x0
theorem impl_lower.f_eq (k : Nat) (x0 : ByteArray) : impl_lower.f k x0 = impl_lower.L2 k k x0 (x0.size : Int) (0 : Int) := by kernel_rfl
theorem impl_lower.L2_eq (k k1 : Nat) (x0 : ByteArray) (x5 : Int) (x6 : Int) : impl_lower.L2 k (k1 + 1) x0 x5 x6 = ifb (decide (x6 < x5)) (ifb (decide (0 ≤ x6) && decide (x6 < (x0.size : Int))) (ifb (decide ((byteAt x0 x6) < (97 : Int))) (some false) (ifb (decide (0 ≤ x6) && decide (x6 < (x0.size : Int))) (ifb (decide ((byteAt x0 x6) > (122 : Int))) (some false) (impl_lower.L2 k k1 x0 x5 (w64 (x6 + 1)))) (none))) (none)) (some true) := by kernel_rfl
theorem impl_lower.ok (k : Nat) : CsOk Tryz.prog Jp (impl_lower.C k) := .nil
theorem impl_lower.can : Can Tryz.prog 116 := can_of (fn := Tryz.f116) (by kernel_rfl) (by kernel_rfl) (by kernel_rfl)
theorem impl_lower.snd (k : Nat) : Snd Tryz.prog Jp 116 ⟨impl_lower.ps, impl_lower.rs, impl_lower.F k⟩ := snd_of E_ok impl_lower.ok mixed (fn := Tryz.f116) (by kernel_rfl) (by kernel_rfl) (by kernel_rfl) k
noncomputable def i_stringslite_HasPrefix.C (k : Nat) : CEs := []
abbrev i_stringslite_HasPrefix.ps : List Par := [⟨.str, .rd⟩, ⟨.str, .rd⟩]
abbrev i_stringslite_HasPrefix.rs : List Res := [⟨.bool, .ro, false⟩]
def i_stringslite_HasPrefix.H : Heads := []
noncomputable def i_stringslite_HasPrefix.F : Nat → ProdT (i_stringslite_HasPrefix.ps.map (·.τ)) → Option (ProdT (outs i_stringslite_HasPrefix.ps i_stringslite_HasPrefix.rs)) := evFn E i_stringslite_HasPrefix.C i_stringslite_HasPrefix.H Tryz.f134 i_stringslite_HasPrefix.ps i_stringslite_HasPrefix.rs
noncomputable def i_stringslite_HasPrefix.f (k : Nat) (x0 : ByteArray) (x1 : ByteArray) : Option (Bool) := i_stringslite_HasPrefix.F k (x0, x1)
theorem i_stringslite_HasPrefix.f_eq (k : Nat) (x0 : ByteArray) (x1 : ByteArray) : i_stringslite_HasPrefix.f k x0 x1 = ifb (decide ((x0.size : Int) ≥ (x1.size : Int))) (ifb (decide (0 ≤ (0 : Int)) && (decide ((0 : Int) ≤ (x1.size : Int)) && decide ((x1.size : Int) ≤ (x0.size : Int)))) (some ((x0.extract (0 : Int).toNat (x1.size : Int).toNat).toList == x1.toList)) (none)) (some false) := by kernel_rfl
theorem i_stringslite_HasPrefix.ok (k : Nat) : CsOk Tryz.prog Jp (i_stringslite_HasPrefix.C k) := .nil
theorem i_stringslite_HasPrefix.can : Can Tryz.prog 134 := can_of (fn := Tryz.f134) (by kernel_rfl) (by kernel_rfl) (by kernel_rfl)
theorem i_stringslite_HasPrefix.snd (k : Nat) : Snd Tryz.prog Jp 134 ⟨i_stringslite_HasPrefix.ps, i_stringslite_HasPrefix.rs, i_stringslite_HasPrefix.F k⟩ := snd_of E_ok i_stringslite_HasPrefix.ok mixed (fn := Tryz.f134) (by kernel_rfl) (by kernel_rfl) (by kernel_rfl) k
noncomputable def strings_HasPrefix.C (k : Nat) : CEs := [(134, ⟨i_stringslite_HasPrefix.ps, i_stringslite_HasPrefix.rs, i_stringslite_HasPrefix.F k⟩)]
abbrev strings_HasPrefix.ps : List Par := [⟨.str, .rd⟩, ⟨.str, .rd⟩]
abbrev strings_HasPrefix.rs : List Res := [⟨.bool, .ro, false⟩]
def strings_HasPrefix.H : Heads := []
noncomputable def strings_HasPrefix.F : Nat → ProdT (strings_HasPrefix.ps.map (·.τ)) → Option (ProdT (outs strings_HasPrefix.ps strings_HasPrefix.rs)) := evFn E strings_HasPrefix.C strings_HasPrefix.H Tryz.f118 strings_HasPrefix.ps strings_HasPrefix.rs
noncomputable def strings_HasPrefix.f (k : Nat) (x0 : ByteArray) (x1 : ByteArray) : Option (Bool) := strings_HasPrefix.F k (x0, x1)
theorem strings_HasPrefix.f_eq (k : Nat) (x0 : ByteArray) (x1 : ByteArray) : strings_HasPrefix.f k x0 x1 = (i_stringslite_HasPrefix.f k x0 x1).bind fun (r0 : Bool) => some r0 := by kernel_rfl
theorem strings_HasPrefix.ok (k : Nat) : CsOk Tryz.prog Jp (strings_HasPrefix.C k) := .cons (i_stringslite_HasPrefix.snd k) i_stringslite_HasPrefix.can <| .nil
theorem strings_HasPrefix.can : Can Tryz.prog 118 := can_of (fn := Tryz.f118) (by kernel_rfl) (by kernel_rfl) (by kernel_rfl)
theorem strings_HasPrefix.snd (k : Nat) : Snd Tryz.prog Jp 118 ⟨strings_HasPrefix.ps, strings_HasPrefix.rs, strings_HasPrefix.F k⟩ := snd_of E_ok strings_HasPrefix.ok mixed (fn := Tryz.f118) (by kernel_rfl) (by kernel_rfl) (by kernel_rfl) k
noncomputable def i_stringslite_HasSuffix.C (k : Nat) : CEs := []
abbrev i_stringslite_HasSuffix.ps : List Par := [⟨.str, .rd⟩, ⟨.str, .rd⟩]
abbrev i_stringslite_HasSuffix.rs : List Res := [⟨.bool, .ro, false⟩]
def i_stringslite_HasSuffix.H : Heads := []
noncomputable def i_stringslite_HasSuffix.F : Nat → ProdT (i_stringslite_HasSuffix.ps.map (·.τ)) → Option (ProdT (outs i_stringslite_HasSuffix.ps i_stringslite_HasSuffix.rs)) := evFn E i_stringslite_HasSuffix.C i_stringslite_HasSuffix.H Tryz.f135 i_stringslite_HasSuffix.ps i_stringslite_HasSuffix.rs
noncomputable def i_stringslite_HasSuffix.f (k : Nat) (x0 : ByteArray) (x1 : ByteArray) : Option (Bool) := i_stringslite_HasSuffix.F k (x0, x1)
theorem i_stringslite_HasSuffix.f_eq (k : Nat) (x0 : ByteArray) (x1 : ByteArray) : i_stringslite_HasSuffix.f k x0 x1 = ifb (decide ((x0.size : Int) ≥ (x1.size : Int))) (ifb (decide (0 ≤ (w64 ((x0.size : Int) - (x1.size : Int)))) && (decide ((w64 ((x0.size : Int) - (x1.size : Int))) ≤ (x0.size : Int)) && decide ((x0.size : Int) ≤ (x0.size : Int)))) (some ((x0.extract (w64 ((x0.size : Int) - (x1.size : Int))).toNat (x0.size : Int).toNat).toList == x1.toList)) (none)) (some false) := by kernel_rfl
theorem i_stringslite_HasSuffix.ok (k : Nat) : CsOk Tryz.prog Jp (i_stringslite_HasSuffix.C k) := .nil
theorem i_stringslite_HasSuffix.can : Can Tryz.prog 135 := can_of (fn := Tryz.f135) (by kernel_rfl) (by kernel_rfl) (by kernel_rfl)
theorem i_stringslite_HasSuffix.snd (k : Nat) : Snd Tryz.prog Jp 135 ⟨i_stringslite_HasSuffix.ps, i_stringslite_HasSuffix.rs, i_stringslite_HasSuffix.F k⟩ := snd_of E_ok i_stringslite_HasSuffix.ok mixed (fn := Tryz.f135) (by kernel_rfl) (by kernel_rfl) (by kernel_rfl) k
noncomputable def strings_HasSuffix.C (k : Nat) : CEs := [(135, ⟨i_stringslite_HasSuffix.ps, i_stringslite_HasSuffix.rs, i_stringslite_HasSuffix.F k⟩)]
abbrev strings_HasSuffix.ps : List Par := [⟨.str, .rd⟩, ⟨.str, .rd⟩]
abbrev strings_HasSuffix.rs : List Res := [⟨.bool, .ro, false⟩]
def strings_HasSuffix.H : Heads := []
noncomputable def strings_HasSuffix.F : Nat → ProdT (strings_HasSuffix.ps.map (·.τ)) → Option (ProdT (outs strings_HasSuffix.ps strings_HasSuffix.rs)) := evFn E strings_HasSuffix.C strings_HasSuffix.H Tryz.f119 strings_HasSuffix.ps strings_HasSuffix.rs
noncomputable def strings_HasSuffix.f (k : Nat) (x0 : ByteArray) (x1 : ByteArray) : Option (Bool) := strings_HasSuffix.F k (x0, x1)
theorem strings_HasSuffix.f_eq (k : Nat) (x0 : ByteArray) (x1 : ByteArray) : strings_HasSuffix.f k x0 x1 = (i_stringslite_HasSuffix.f k x0 x1).bind fun (r0 : Bool) => some r0 := by kernel_rfl
theorem strings_HasSuffix.ok (k : Nat) : CsOk Tryz.prog Jp (strings_HasSuffix.C k) := .cons (i_stringslite_HasSuffix.snd k) i_stringslite_HasSuffix.can <| .nil
theorem strings_HasSuffix.can : Can Tryz.prog 119 := can_of (fn := Tryz.f119) (by kernel_rfl) (by kernel_rfl) (by kernel_rfl)
theorem strings_HasSuffix.snd (k : Nat) : Snd Tryz.prog Jp 119 ⟨strings_HasSuffix.ps, strings_HasSuffix.rs, strings_HasSuffix.F k⟩ := snd_of E_ok strings_HasSuffix.ok mixed (fn := Tryz.f119) (by kernel_rfl) (by kernel_rfl) (by kernel_rfl) k
noncomputable def impl_AffixOk.C (k : Nat) : CEs := [(117, ⟨impl_upper.ps, impl_upper.rs, impl_upper.F k⟩), (116, ⟨impl_lower.ps, impl_lower.rs, impl_lower.F k⟩), (118, ⟨strings_HasPrefix.ps, strings_HasPrefix.rs, strings_HasPrefix.F k⟩), (119, ⟨strings_HasSuffix.ps, strings_HasSuffix.rs, strings_HasSuffix.F k⟩)]
abbrev impl_AffixOk.ps : List Par := [⟨t66, .rd⟩]
abbrev impl_AffixOk.rs : List Res := [⟨.bool, .ro, false⟩]
def impl_AffixOk.H : Heads := [(4, [(1, .ro), (22, (.own .ro)), (23, .ro), (24, .ro)])]
noncomputable def impl_AffixOk.F : Nat → ProdT (impl_AffixOk.ps.map (·.τ)) → Option (ProdT (outs impl_AffixOk.ps impl_AffixOk.rs)) := evFn E impl_AffixOk.C impl_AffixOk.H Tryz.f89 impl_AffixOk.ps impl_AffixOk.rs
noncomputable def impl_AffixOk.L4 (k k1 : Nat) (x1 : Aff) (x22 : List ByteArray) (x23 : Int) (x24 : Int) : Option (Bool) := atL E impl_AffixOk.C impl_AffixOk.H Tryz.f89 impl_AffixOk.ps impl_AffixOk.rs [true, true, false, true, true] k [] k1 (sh 49 [(1, .box t66 x1 .ro none), (22, .d (.row .str) x22 (.own .ro)), (23, .d (.int .i64) x23 .ro), (24, .d (.int .i64) x24 .ro)])
noncomputable def impl_AffixOk.f (k : Nat) (x0 : Aff) : Option (Bool) := impl_AffixOk.F k x0
theorem impl_AffixOk.f_eq (k : Nat) (x0 : Aff) : impl_AffixOk.f k x0 = ifb ((x0.1.size : Int) != (1 : Int)) (some false) (ifb (decide (0 ≤ (0 : Int)) && decide ((0 : Int) < (x0.1.size : Int))) ((impl_upper.f k (byteAt x0.1 (0 : Int))).bind fun (r0 : Bool) => ifb (!r0) (some false) (impl_AffixOk.L4 k k x0 [x0.2.2.1, x0.2.2.2.1, x0.2.2.2.2] ([x0.2.2.1, x0.2.2.2.1, x0.2.2.2.2].length : Int) (0 : Int))) (none)) := by kernel_rfl
theorem impl_AffixOk.L4_eq (k k1 : Nat) (x1 : Aff) (x22 : List ByteArray) (x23 : Int) (x24 : Int) : impl_AffixOk.L4 k (k1 + 1) x1 x22 x23 x24 = ifb (decide (x24 < x23)) (ifb (decide (0 ≤ x24) && decide (x24 < (x22.length : Int))) (ifb (decide (((x22.getD x24.toNat bz).size : Int) > (4 : Int))) (some false) ((impl_lower.f k1 (x22.getD x24.toNat bz)).bind fun (r1 : Bool) => ifb (!r1) (some false) (impl_AffixOk.L4 k k1 x1 x22 x23 (w64 (x24 + 1))))) (none)) (ifb x1.2.1 ((strings_HasPrefix.f k x1.2.2.2.2 x1.2.2.1).bind fun (r2 : Bool) => some r2) ((strings_HasSuffix.f k x1.2.2.2.2 x1.2.2.1).bind fun (r3 : Bool) => some r3)) := by kernel_rfl
theorem impl_AffixOk.ok (k : Nat) : CsOk Tryz.prog Jp (impl_AffixOk.C k) := .cons (impl_upper.snd k) impl_upper.can <| .cons (impl_lower.snd k) impl_lower.can <| .cons (strings_HasPrefix.snd k) strings_HasPrefix.can <| .cons (strings_HasSuffix.snd k) strings_HasSuffix.can <| .nil
theorem impl_AffixOk.can : Can Tryz.prog 89 := can_of (fn := Tryz.f89) (by kernel_rfl) (by kernel_rfl) (by kernel_rfl)
theorem impl_AffixOk.snd (k : Nat) : Snd Tryz.prog Jp 89 ⟨impl_AffixOk.ps, impl_AffixOk.rs, impl_AffixOk.F k⟩ := snd_of E_ok impl_AffixOk.ok mixed (fn := Tryz.f89) (by kernel_rfl) (by kernel_rfl) (by kernel_rfl) k
noncomputable def slices_Index_impl_Affix_impl_Affix.C (k : Nat) : CEs := []
abbrev slices_Index_impl_Affix_impl_Affix.ps : List Par := [⟨t23, .rd⟩, ⟨t66, .rd⟩]
abbrev slices_Index_impl_Affix_impl_Affix.rs : List Res := [⟨(.int .i64), .ro, false⟩]
def slices_Index_impl_Affix_impl_Affix.H : Heads := [(2, [(0, .ro), (3, .ro), (7, .ro), (8, .ro)])]
noncomputable def slices_Index_impl_Affix_impl_Affix.F : Nat → ProdT (slices_Index_impl_Affix_impl_Affix.ps.map (·.τ)) → Option (ProdT (outs slices_Index_impl_Affix_impl_Affix.ps slices_Index_impl_Affix_impl_Affix.rs)) := evFn E slices_Index_impl_Affix_impl_Affix.C slices_Index_impl_Affix_impl_Affix.H Tryz.f120 slices_Index_impl_Affix_impl_Affix.ps slices_Index_impl_Affix_impl_Affix.rs
noncomputable def slices_Index_impl_Affix_impl_Affix.L2 (k k1 : Nat) (x0 : List Aff) (x3 : Aff) (x7 : Int) (x8 : Int) : Option (Int) := atL E slices_Index_impl_Affix_impl_Affix.C slices_Index_impl_Affix_impl_Affix.H Tryz.f120 slices_Index_impl_Affix_impl_Affix.ps slices_Index_impl_Affix_impl_Affix.rs [true, false, true, true] k [] k1 (sh 19 [(0, .d t23 x0 .ro), (3, .box t66 x3 .ro none), (7, .d (.int .i64) x7 .ro), (8, .d (.int .i64) x8 .ro)])
noncomputable def slices_Index_impl_Affix_impl_Affix.f (k : Nat) (x0 : List Aff) (x1 : Aff) : Option (Int) := slices_Index_impl_Affix_impl_Affix.F k (x0, x1)
theorem slices_Index_impl_Affix_impl_Affix.f_eq (k : Nat) (x0 : List Aff) (x1 : Aff) : slices_Index_impl_Affix_impl_Affix.f k x0 x1 = slices_Index_impl_Affix_impl_Affix.L2 k k x0 x1 (x0.length : Int) (0 : Int) := by kernel_rfl
theorem slices_Index_impl_Affix_impl_Affix.L2_eq (k k1 : Nat) (x0 : List Aff) (x3 : Aff) (x7 : Int) (x8 : Int) : slices_Index_impl_Affix_impl_Affix.L2 k (k1 + 1) x0 x3 x7 x8 = ifb (decide (x8 < x7)) (ifb (decide (0 ≤ x8) && decide (x8 < (x0.length : Int))) (ifb ((x3.1.toList == ((x0.getD x8.toNat zA).1).toList) && ((x3.2.1 == ((x0.getD x8.toNat zA).2).1) && ((x3.2.2.1.toList == ((((x0.getD x8.toNat zA).2).2).1).toList) && ((x3.2.2.2.1.toList == (((((x0.getD x8.toNat zA).2).2).2).1).toList) && (x3.2.2.2.2.toList == (((((x0.getD x8.toNat zA).2).2).2).2).toList))))) (some x8) (slices_Index_impl_Affix_impl_Affix.L2 k k1 x0 x3 x7 (w64 (x8 + 1)))) (none)) (some (-1 : Int)) := by kernel_rfl
theorem slices_Index_impl_Affix_impl_Affix.ok (k : Nat) : CsOk Tryz.prog Jp (slices_Index_impl_Affix_impl_Affix.C k) := .nil
theorem slices_Index_impl_Affix_impl_Affix.can : Can Tryz.prog 120 := can_of (fn := Tryz.f120) (by kernel_rfl) (by kernel_rfl) (by kernel_rfl)
theorem slices_Index_impl_Affix_impl_Affix.snd (k : Nat) : Snd Tryz.prog Jp 120 ⟨slices_Index_impl_Affix_impl_Affix.ps, slices_Index_impl_Affix_impl_Affix.rs, slices_Index_impl_Affix_impl_Affix.F k⟩ := snd_of E_ok slices_Index_impl_Affix_impl_Affix.ok mixed (fn := Tryz.f120) (by kernel_rfl) (by kernel_rfl) (by kernel_rfl) k
noncomputable def slices_Contains_impl_Affix_impl_Affix.C (k : Nat) : CEs := [(120, ⟨slices_Index_impl_Affix_impl_Affix.ps, slices_Index_impl_Affix_impl_Affix.rs, slices_Index_impl_Affix_impl_Affix.F k⟩)]
abbrev slices_Contains_impl_Affix_impl_Affix.ps : List Par := [⟨t23, .rd⟩, ⟨t66, .rd⟩]
abbrev slices_Contains_impl_Affix_impl_Affix.rs : List Res := [⟨.bool, .ro, false⟩]
def slices_Contains_impl_Affix_impl_Affix.H : Heads := []
noncomputable def slices_Contains_impl_Affix_impl_Affix.F : Nat → ProdT (slices_Contains_impl_Affix_impl_Affix.ps.map (·.τ)) → Option (ProdT (outs slices_Contains_impl_Affix_impl_Affix.ps slices_Contains_impl_Affix_impl_Affix.rs)) := evFn E slices_Contains_impl_Affix_impl_Affix.C slices_Contains_impl_Affix_impl_Affix.H Tryz.f90 slices_Contains_impl_Affix_impl_Affix.ps slices_Contains_impl_Affix_impl_Affix.rs
noncomputable def slices_Contains_impl_Affix_impl_Affix.f (k : Nat) (x0 : List Aff) (x1 : Aff) : Option (Bool) := slices_Contains_impl_Affix_impl_Affix.F k (x0, x1)
theorem slices_Contains_impl_Affix_impl_Affix.f_eq (k : Nat) (x0 : List Aff) (x1 : Aff) : slices_Contains_impl_Affix_impl_Affix.f k x0 x1 = (slices_Index_impl_Affix_impl_Affix.f k x0 x1).bind fun (r0 : Int) => some (decide (r0 ≥ (0 : Int))) := by kernel_rfl
theorem slices_Contains_impl_Affix_impl_Affix.ok (k : Nat) : CsOk Tryz.prog Jp (slices_Contains_impl_Affix_impl_Affix.C k) := .cons (slices_Index_impl_Affix_impl_Affix.snd k) slices_Index_impl_Affix_impl_Affix.can <| .nil
theorem slices_Contains_impl_Affix_impl_Affix.can : Can Tryz.prog 90 := can_of (fn := Tryz.f90) (by kernel_rfl) (by kernel_rfl) (by kernel_rfl)
theorem slices_Contains_impl_Affix_impl_Affix.snd (k : Nat) : Snd Tryz.prog Jp 90 ⟨slices_Contains_impl_Affix_impl_Affix.ps, slices_Contains_impl_Affix_impl_Affix.rs, slices_Contains_impl_Affix_impl_Affix.F k⟩ := snd_of E_ok slices_Contains_impl_Affix_impl_Affix.ok mixed (fn := Tryz.f90) (by kernel_rfl) (by kernel_rfl) (by kernel_rfl) k
end Go.Proofs.YtabindnaedchgaaGreat.Rf
end

section
/-
  DERIVED: THE SHELF's CONTRACTS AT THIS DUMP, IN PLAIN WORDS (tools/lay-plain.mjs out of 'TryzEShelf.lean', which tools/lay-shelf.mjs wrote): THE SAME DECLARATIONS UNDER THE SAME NAMES: 'import', 'namespace', 'open', 'def', 'theorem' AND NOTHING ELSE: no command of the shelf's: FOR A HAND-IN. Each laying: the table of numbers ('.._ren') and one theorem, a field a fact of the dump's own or the kernel's comparison; each contract: ONE APPLICATION.
-/
namespace Go.Proofs
open Go.Shelf
def Tryz.laysIdx_ren : Go.Shelf.Ren := ⟨fun | 6 => 71 | n => n, fun | 22 => 24 | 23 => 38 | 25 => 71 | 3 => 3 | 0 => 0 | 4 => 4 | n => n, fun | n => n⟩
theorem Tryz.laysIdx : Go.Proofs.SlLaysH0.n6 Tryz.prog Tryz.laysIdx_ren := {
  mixed := by kernel_rfl
  f6 := ⟨Tryz.f71.name, by decide, Tryz.func71.trans (congrArg some (by kernel_rfl))⟩
  t0 := Tryz.underlying0
  a0 := Tryz.isAgg0
  z0 := Tryz.sizeOf0
  v0 := Tryz.zeroValue0
  t3 := Tryz.underlying3
  a3 := Tryz.isAgg3
  z3 := Tryz.sizeOf3
  v3 := Tryz.zeroValue3
  t4 := Tryz.underlying4
  a4 := Tryz.isAgg4
  z4 := Tryz.sizeOf4
  v4 := Tryz.zeroValue4
  t22 := Tryz.underlying24
  a22 := Tryz.isAgg24
  z22 := Tryz.sizeOf24
  v22 := Tryz.zeroValue24
  t25 := Tryz.underlying71
  a25 := Tryz.isAgg71
  z25 := Tryz.sizeOf71
  v25 := Tryz.zeroValue71 }
def Tryz.laysSort_ren : Go.Shelf.Ren := ⟨fun | 6 => 79 | 15 => 78 | 14 => 112 | 28 => 110 | 29 => 111 | 20 => 126 | 21 => 127 | 22 => 128 | 23 => 129 | 24 => 130 | 25 => 131 | 26 => 132 | 27 => 133 | 46 => 137 | 47 => 122 | 48 => 123 | 49 => 138 | 50 => 139 | 57 => 140 | n => n, fun | 22 => 24 | 24 => 38 | 25 => 103 | 3 => 3 | 39 => 100 | 0 => 0 | 53 => 126 | 55 => 128 | 4 => 4 | 46 => 120 | 45 => 119 | 50 => 69 | 5 => 5 | 9 => 9 | 66 => 134 | 70 => 138 | 76 => 145 | 77 => 146 | n => n, fun | n => n⟩
theorem Tryz.laysSort : Go.Proofs.SlLaysF0.n6 Tryz.prog Tryz.laysSort_ren := {
  mixed := by kernel_rfl
  f6 := ⟨Tryz.f79.name, by decide, Tryz.func79.trans (congrArg some (by kernel_rfl))⟩
  f14 := ⟨Tryz.f112.name, by decide, Tryz.func112.trans (congrArg some (by kernel_rfl))⟩
  f15 := Tryz.func78.trans (congrArg some (by kernel_rfl))
  f20 := ⟨Tryz.f126.name, by decide, Tryz.func126.trans (congrArg some (by kernel_rfl))⟩
  f21 := ⟨Tryz.f127.name, by decide, Tryz.func127.trans (congrArg some (by kernel_rfl))⟩
  f22 := ⟨Tryz.f128.name, by decide, Tryz.func128.trans (congrArg some (by kernel_rfl))⟩
  f23 := ⟨Tryz.f129.name, by decide, Tryz.func129.trans (congrArg some (by kernel_rfl))⟩
  f24 := ⟨Tryz.f130.name, by decide, Tryz.func130.trans (congrArg some (by kernel_rfl))⟩
  f25 := ⟨Tryz.f131.name, by decide, Tryz.func131.trans (congrArg some (by kernel_rfl))⟩
  f26 := ⟨Tryz.f132.name, by decide, Tryz.func132.trans (congrArg some (by kernel_rfl))⟩
  f27 := ⟨Tryz.f133.name, by decide, Tryz.func133.trans (congrArg some (by kernel_rfl))⟩
  f28 := Tryz.func110.trans (congrArg some (by kernel_rfl))
  f29 := Tryz.func111.trans (congrArg some (by kernel_rfl))
  f46 := ⟨Tryz.f137.name, by decide, Tryz.func137.trans (congrArg some (by kernel_rfl))⟩
  f47 := Tryz.func122.trans (congrArg some (by kernel_rfl))
  f48 := Tryz.func123.trans (congrArg some (by kernel_rfl))
  f49 := ⟨Tryz.f138.name, by decide, Tryz.func138.trans (congrArg some (by kernel_rfl))⟩
  f50 := ⟨Tryz.f139.name, by decide, Tryz.func139.trans (congrArg some (by kernel_rfl))⟩
  f57 := ⟨Tryz.f140.name, by decide, Tryz.func140.trans (congrArg some (by kernel_rfl))⟩
  t0 := Tryz.underlying0
  a0 := Tryz.isAgg0
  z0 := Tryz.sizeOf0
  v0 := Tryz.zeroValue0
  t3 := Tryz.underlying3
  a3 := Tryz.isAgg3
  z3 := Tryz.sizeOf3
  v3 := Tryz.zeroValue3
  t4 := Tryz.underlying4
  a4 := Tryz.isAgg4
  z4 := Tryz.sizeOf4
  v4 := Tryz.zeroValue4
  t5 := Tryz.underlying5
  a5 := Tryz.isAgg5
  z5 := Tryz.sizeOf5
  v5 := Tryz.zeroValue5
  t9 := Tryz.underlying9
  a9 := Tryz.isAgg9
  z9 := Tryz.sizeOf9
  v9 := Tryz.zeroValue9
  t22 := Tryz.underlying24
  a22 := Tryz.isAgg24
  z22 := Tryz.sizeOf24
  v22 := Tryz.zeroValue24
  t25 := Tryz.underlying103
  a25 := Tryz.isAgg103
  z25 := Tryz.sizeOf103
  v25 := Tryz.zeroValue103
  t39 := Tryz.underlying100
  a39 := Tryz.isAgg100
  z39 := Tryz.sizeOf100
  v39 := Tryz.zeroValue100
  t45 := Tryz.underlying119
  a45 := Tryz.isAgg119
  z45 := Tryz.sizeOf119
  v45 := Tryz.zeroValue119
  t46 := Tryz.underlying120
  a46 := Tryz.isAgg120
  z46 := Tryz.sizeOf120
  v46 := Tryz.zeroValue120
  t50 := Tryz.underlying69
  a50 := Tryz.isAgg69
  z50 := Tryz.sizeOf69
  v50 := Tryz.zeroValue69
  t53 := Tryz.underlying126
  a53 := Tryz.isAgg126
  z53 := Tryz.sizeOf126
  v53 := Tryz.zeroValue126
  t55 := Tryz.underlying128
  a55 := Tryz.isAgg128
  z55 := Tryz.sizeOf128
  v55 := Tryz.zeroValue128
  t66 := Tryz.underlying134
  a66 := Tryz.isAgg134
  z66 := Tryz.sizeOf134
  v66 := Tryz.zeroValue134
  t70 := Tryz.underlying138
  a70 := Tryz.isAgg138
  z70 := Tryz.sizeOf138
  v70 := Tryz.zeroValue138
  t76 := Tryz.underlying145
  a76 := Tryz.isAgg145
  z76 := Tryz.sizeOf145
  v76 := Tryz.zeroValue145
  t77 := Tryz.underlying146
  a77 := Tryz.isAgg146
  z77 := Tryz.sizeOf146
  v77 := Tryz.zeroValue146 }
end Go.Proofs
end

section
/- impl.entryAt, walked by hand: slices.IndexFunc with a closure that has captured a text. -/
namespace Go.Proofs.YtabindnaedchgaaGreat.Rf
open Go Go.RowKit
set_option linter.unusedVariables false
set_option linter.unusedSimpArgs false
/-- The cells of an entry. -/
def encE (x : ByteArray × ByteArray) : List Value := [.string x.1, .string x.2]
theorem entry_pred (s : ByteArray) (B : Nat) (w : World) (hB : B < w.heap.size) (hcell : w.cell? ⟨B, 0, none⟩ = some (.string s)) :
    PredBelow Tryz.prog 72 #[.pointer (some ⟨B, 0, none⟩)] (fun x => .agg (encE x).toArray) (fun x => x.1.toList == s.toList) w := fun W x hb => by
  have hc : W.cell? ⟨B, 0, none⟩ = some (.string s) := (hb.cell (p := ⟨B, 0, none⟩) hB).trans hcell
  have hBW : B < W.heap.size := Nat.lt_of_lt_of_le hB hb.size
  have hne : B ≠ W.heap.size := by omega
  show Calls Tryz.prog 72 #[.agg #[.string x.1, .string x.2], .pointer (some ⟨B, 0, none⟩)] W _
  go_enter Tryz.func72, Tryz.ntmps72
  go_wp2
  go_ret
  exact ⟨rfl, hb.alloc hb.size _⟩
theorem index_empty (a : Option Addr) (c : Nat) (fv : Value) (w : World) :
    Calls Tryz.prog 71 #[.slice a 0 c, fv] w fun e w' => e = .returned (.int .i64 (-1)) ∧ w' = w := by
  go_enter Tryz.func71, Tryz.ntmps71
  go_wp2
  go_loopg [5, 8] 0 (fun _ _ s8 wr => s8 = .int .i64 0 ∧ wr = w)
  case atStart => exact ⟨rfl, rfl⟩
  case round =>
    obtain ⟨rfl, rfl⟩ := hrel
    go_wp2
    go_ret
    exact ⟨rfl, rfl⟩
instance instEn : Inhabited (ByteArray × ByteArray) := ⟨(ByteArray.empty, ByteArray.empty)⟩
/-- The place of the first entry with a stem. -/
def idxE (l : List (ByteArray × ByteArray)) (s : ByteArray) : Int := Lib.idxBy (fun _ y => y.1.toList == s.toList) l default
set_option maxHeartbeats 4000000 in
theorem entryAt_calls (A0 : Option Addr) (c0 : Nat) (l0 : List (ByteArray × ByteArray)) (a1 : ByteArray) (w : World) (hlen : l0.length ≤ 4611686018427387904)
    (hr : l0 = [] ∨ ∃ b off, A0 = some ⟨b, off, none⟩ ∧ b < w.heap.size ∧ ∀ j, j < l0.length → ∀ i v, (encE l0[j]!)[i]? = some v → w.cell? ⟨b, off + j * 2 + i, none⟩ = some v) :
    Calls Tryz.prog 31 #[.slice A0 l0.length c0, .string a1] w fun e w' => e = .returned (.int .i64 (idxE l0 a1)) ∧ Below w.heap.size w w' := by
  have hcon : Calls Tryz.prog 71 #[.slice A0 l0.length c0, .func (.func 72) #[] #[.pointer (some ⟨w.heap.size, 0, none⟩)]] (w.alloc (.cells #[.string a1] 9)) fun e w' => e = .returned (.int .i64 (idxE l0 a1)) ∧ Below (w.alloc (.cells #[.string a1] 9)).heap.size (w.alloc (.cells #[.string a1] 9)) w' := by
    rcases hr with rfl | ⟨b, off, rfl, hb, hc⟩
    · exact (index_empty A0 c0 _ _).mono fun e w' ⟨he, hw⟩ => ⟨he, hw ▸ Below.refl _ _⟩
    · have eg : ∀ args w, (callFunc 72 args).run Tryz.prog w = .ok (.enter 72 args) w := enters_of Tryz.func72 (by kernel_rfl) rfl
      have h := AnyQ.slices_IndexFunc Tryz.laysIdx 2 Tryz.isAgg38 Tryz.sizeOf38 encE (fun _ => rfl) (fun x => x.1.toList == a1.toList) 72 #[.pointer (some ⟨w.heap.size, 0, none⟩)] eg b off l0.length c0 l0 (w.alloc (.cells #[.string a1] 9))
        (entry_pred a1 w.heap.size _ (by simp) (by simp)) (Nat.le_refl _) (by omega) (by simp; omega) (fun j hj i v hi => Lib.cell?_alloc_some _ (hc j hj i v hi))
      rw [List.take_length] at h
      exact h
  unfold idxE at hcon ⊢
  generalize Lib.idxBy (fun _ y => y.1.toList == a1.toList) l0 default = r at hcon ⊢
  go_enter Tryz.func31, Tryz.ntmps31
  go_wp2_with (go_at_call 71; refine hcon.mono ?_; rintro e w' ⟨rfl, hb'⟩)
  go_ret
  exact ⟨rfl, ((Below.refl _ w).alloc (Nat.le_refl _) _).trans (hb'.mono (by simp))⟩
abbrev impl_entryAt.ps : List Par := [⟨.row (.st (.pair .str .str)), .rd⟩, ⟨.str, .rd⟩]
abbrev impl_entryAt.rs : List Res := [⟨.int .i64, .ro, false⟩]
def impl_entryAt.F (_ : Nat) (x : List (ByteArray × ByteArray) × ByteArray) : Option Int := if x.1.length ≤ 4611686018427387904 then some (idxE x.1 x.2) else none
def impl_entryAt.f (k : Nat) (l : List (ByteArray × ByteArray)) (s : ByteArray) : Option Int := impl_entryAt.F k (l, s)
theorem impl_entryAt.can : Can Tryz.prog 31 := can_of (fn := Tryz.f31) (by kernel_rfl) (by kernel_rfl) (by kernel_rfl)
theorem impl_entryAt.snd (k : Nat) : Snd Tryz.prog Jp 31 ⟨impl_entryAt.ps, impl_entryAt.rs, impl_entryAt.F k⟩ := by
  refine snd_ro rfl ?_
  rintro ⟨l, s⟩ r hr ξ w vs wf _ hsz ha
  simp only [impl_entryAt.F] at hr
  split at hr
  case isFalse => cases hr
  rename_i hlen
  obtain rfl := Option.some.inj hr
  obtain ⟨T0, cs, h0, h1⟩ := ha 0 _ _ rfl rfl
  obtain ⟨T1, h2⟩ := ha 1 _ _ rfl rfl
  have h2 := own_str (by simp) h2
  obtain ⟨A, cap, rfl, k1, k2⟩ := h1.row_ro
  obtain rfl := vs_two hsz h0 h2
  refine (entryAt_calls A cap l s w hlen ?_).mono ?_
  · rcases Nat.eq_zero_or_pos l.length with h | h
    · exact .inl (List.eq_nil_of_length_eq_zero h)
    · obtain ⟨a, c, e1, e2, e3, e4, e5⟩ := k2 0 h
      obtain rfl := rel_pair e5
      obtain ⟨b, off, sp⟩ := a
      simp only at e2 e4
      subst e2
      refine .inr ⟨b, off, e1, cell_lt (e4 0 _ rfl), fun j hj i v hi => ?_⟩
      obtain ⟨a', c', g1, g2, g3, g4, g5⟩ := k2 j hj
      rw [e1] at g1
      obtain rfl := Option.some.inj g1
      obtain rfl := rel_pair g5
      rw [show l[j]! = l[j] from getElem!_pos l j hj] at hi
      exact g4 i v hi
  · rintro e w' ⟨he, hb⟩
    exact ⟨_, Em, he, hb, of_int _ _ _ _ _, fun b hb => hb.elim⟩
end Go.Proofs.YtabindnaedchgaaGreat.Rf
end

section
/- Functions of the program, told plainly, and their contracts: part A1. -/
namespace Go.Proofs.YtabindnaedchgaaGreat.Rf
open Go Go.RowKit
set_option linter.unusedVariables false
noncomputable def impl_affixesOk.C (k : Nat) : CEs := [(89, ⟨impl_AffixOk.ps, impl_AffixOk.rs, impl_AffixOk.F k⟩), (90, ⟨slices_Contains_impl_Affix_impl_Affix.ps, slices_Contains_impl_Affix_impl_Affix.rs, slices_Contains_impl_Affix_impl_Affix.F k⟩)]
abbrev impl_affixesOk.ps : List Par := [⟨t23, .rd⟩]
abbrev impl_affixesOk.rs : List Res := [⟨.bool, .ro, false⟩]
def impl_affixesOk.H : Heads := [(2, [(0, .ro), (5, .ro), (6, .ro), (7, .ro)])]
noncomputable def impl_affixesOk.F : Nat → ProdT (impl_affixesOk.ps.map (·.τ)) → Option (ProdT (outs impl_affixesOk.ps impl_affixesOk.rs)) := evFn E impl_affixesOk.C impl_affixesOk.H Tryz.f52 impl_affixesOk.ps impl_affixesOk.rs
noncomputable def impl_affixesOk.L2 (k k1 : Nat) (x0 : List Aff) (x5 : List Aff) (x6 : Int) (x7 : Int) : Option (Bool) := atL E impl_affixesOk.C impl_affixesOk.H Tryz.f52 impl_affixesOk.ps impl_affixesOk.rs [true, false, true, true] k [] k1 (sh 26 [(0, .d t23 x0 .ro), (5, .d t23 x5 .ro), (6, .d (.int .i64) x6 .ro), (7, .d (.int .i64) x7 .ro)])
noncomputable def impl_affixesOk.f (k : Nat) (x0 : List Aff) : Option (Bool) := impl_affixesOk.F k x0
theorem impl_affixesOk.f_eq (k : Nat) (x0 : List Aff) : impl_affixesOk.f k x0 = impl_affixesOk.L2 k k x0 x0 (x0.length : Int) (0 : Int) := by kernel_rfl
theorem impl_affixesOk.L2_eq (k k1 : Nat) (x0 : List Aff) (x5 : List Aff) (x6 : Int) (x7 : Int) : impl_affixesOk.L2 k (k1 + 1) x0 x5 x6 x7 = ifb (decide (x7 < x6)) (ifb (decide (0 ≤ x7) && decide (x7 < (x5.length : Int))) ((impl_AffixOk.f k1 (x5.getD x7.toNat zA)).bind fun (r0 : Bool) => ifb (!r0) (some false) (ifb (decide (0 ≤ (0 : Int)) && (decide ((0 : Int) ≤ x7) && decide (x7 ≤ (x0.length : Int)))) ((slices_Contains_impl_Affix_impl_Affix.f k1 ((x0.take x7.toNat).drop (0 : Int).toNat) (x5.getD x7.toNat zA)).bind fun (r1 : Bool) => ifb r1 (some false) (impl_affixesOk.L2 k k1 x0 x5 x6 (w64 (x7 + 1)))) (none))) (none)) (some (decide ((x0.length : Int) ≤ (8 : Int)))) := by kernel_rfl
theorem impl_affixesOk.ok (k : Nat) : CsOk Tryz.prog Jp (impl_affixesOk.C k) := .cons (impl_AffixOk.snd k) impl_AffixOk.can <| .cons (slices_Contains_impl_Affix_impl_Affix.snd k) slices_Contains_impl_Affix_impl_Affix.can <| .nil
theorem impl_affixesOk.can : Can Tryz.prog 52 := can_of (fn := Tryz.f52) (by kernel_rfl) (by kernel_rfl) (by kernel_rfl)
theorem impl_affixesOk.snd (k : Nat) : Snd Tryz.prog Jp 52 ⟨impl_affixesOk.ps, impl_affixesOk.rs, impl_affixesOk.F k⟩ := snd_of E_ok impl_affixesOk.ok mixed (fn := Tryz.f52) (by kernel_rfl) (by kernel_rfl) (by kernel_rfl) k
noncomputable def impl_within.C (k : Nat) : CEs := []
abbrev impl_within.ps : List Par := [⟨(.int .i64), .rd⟩, ⟨(.int .i64), .rd⟩, ⟨(.int .i64), .rd⟩]
abbrev impl_within.rs : List Res := [⟨.bool, .ro, false⟩]
def impl_within.H : Heads := []
noncomputable def impl_within.F : Nat → ProdT (impl_within.ps.map (·.τ)) → Option (ProdT (outs impl_within.ps impl_within.rs)) := evFn E impl_within.C impl_within.H Tryz.f115 impl_within.ps impl_within.rs
noncomputable def impl_within.f (k : Nat) (x0 : Int) (x1 : Int) (x2 : Int) : Option (Bool) := impl_within.F k (x0, x1, x2)
theorem impl_within.f_eq (k : Nat) (x0 : Int) (x1 : Int) (x2 : Int) : impl_within.f k x0 x1 x2 = ifb (decide (x0 ≥ x1)) (some (decide (x0 ≤ x2))) (some false) := by kernel_rfl
theorem impl_within.ok (k : Nat) : CsOk Tryz.prog Jp (impl_within.C k) := .nil
theorem impl_within.can : Can Tryz.prog 115 := can_of (fn := Tryz.f115) (by kernel_rfl) (by kernel_rfl) (by kernel_rfl)
theorem impl_within.snd (k : Nat) : Snd Tryz.prog Jp 115 ⟨impl_within.ps, impl_within.rs, impl_within.F k⟩ := snd_of E_ok impl_within.ok mixed (fn := Tryz.f115) (by kernel_rfl) (by kernel_rfl) (by kernel_rfl) k
noncomputable def impl_WordOk.C (k : Nat) : CEs := [(116, ⟨impl_lower.ps, impl_lower.rs, impl_lower.F k⟩), (115, ⟨impl_within.ps, impl_within.rs, impl_within.F k⟩)]
abbrev impl_WordOk.ps : List Par := [⟨.str, .rd⟩]
abbrev impl_WordOk.rs : List Res := [⟨.bool, .ro, false⟩]
def impl_WordOk.H : Heads := []
noncomputable def impl_WordOk.F : Nat → ProdT (impl_WordOk.ps.map (·.τ)) → Option (ProdT (outs impl_WordOk.ps impl_WordOk.rs)) := evFn E impl_WordOk.C impl_WordOk.H Tryz.f87 impl_WordOk.ps impl_WordOk.rs
noncomputable def impl_WordOk.f (k : Nat) (x0 : ByteArray) : Option (Bool) := impl_WordOk.F k x0
theorem impl_WordOk.f_eq (k : Nat) (x0 : ByteArray) : impl_WordOk.f k x0 = (impl_within.f k (x0.size : Int) (1 : Int) (12 : Int)).bind fun (r0 : Bool) => ifb r0 ((impl_lower.f k x0).bind fun (r1 : Bool) => some r1) (some false) := by kernel_rfl
theorem impl_WordOk.ok (k : Nat) : CsOk Tryz.prog Jp (impl_WordOk.C k) := .cons (impl_lower.snd k) impl_lower.can <| .cons (impl_within.snd k) impl_within.can <| .nil
theorem impl_WordOk.can : Can Tryz.prog 87 := can_of (fn := Tryz.f87) (by kernel_rfl) (by kernel_rfl) (by kernel_rfl)
theorem impl_WordOk.snd (k : Nat) : Snd Tryz.prog Jp 87 ⟨impl_WordOk.ps, impl_WordOk.rs, impl_WordOk.F k⟩ := snd_of E_ok impl_WordOk.ok mixed (fn := Tryz.f87) (by kernel_rfl) (by kernel_rfl) (by kernel_rfl) k
noncomputable def impl_entryOk.C (k : Nat) : CEs := [(117, ⟨impl_upper.ps, impl_upper.rs, impl_upper.F k⟩), (87, ⟨impl_WordOk.ps, impl_WordOk.rs, impl_WordOk.F k⟩)]
abbrev impl_entryOk.ps : List Par := [⟨t37, .rd⟩]
abbrev impl_entryOk.rs : List Res := [⟨.bool, .ro, false⟩]
def impl_entryOk.H : Heads := [(2, [(1, .ro), (6, .ro), (7, .ro)])]
noncomputable def impl_entryOk.F : Nat → ProdT (impl_entryOk.ps.map (·.τ)) → Option (ProdT (outs impl_entryOk.ps impl_entryOk.rs)) := evFn E impl_entryOk.C impl_entryOk.H Tryz.f88 impl_entryOk.ps impl_entryOk.rs
noncomputable def impl_entryOk.L2 (k k1 : Nat) (x1 : ByteArray × ByteArray) (x6 : Int) (x7 : Int) : Option (Bool) := atL E impl_entryOk.C impl_entryOk.H Tryz.f88 impl_entryOk.ps impl_entryOk.rs [true, false, true, true] k [] k1 (sh 42 [(1, .box t37 x1 .ro none), (6, .d (.int .i64) x6 .ro), (7, .d (.int .i64) x7 .ro)])
noncomputable def impl_entryOk.f (k : Nat) (x0 : ByteArray × ByteArray) : Option (Bool) := impl_entryOk.F k x0
theorem impl_entryOk.f_eq (k : Nat) (x0 : ByteArray × ByteArray) : impl_entryOk.f k x0 = impl_entryOk.L2 k k x0 (x0.2.size : Int) (0 : Int) := by kernel_rfl
theorem impl_entryOk.L2_eq (k k1 : Nat) (x1 : ByteArray × ByteArray) (x6 : Int) (x7 : Int) : impl_entryOk.L2 k (k1 + 1) x1 x6 x7 = ifb (decide (x7 < x6)) (ifb (decide (0 ≤ x7) && decide (x7 < (x1.2.size : Int))) ((impl_upper.f k1 (byteAt x1.2 x7)).bind fun (r0 : Bool) => ifb (!r0) (some false) (ifb (decide (x7 > 0)) (ifb (decide (0 ≤ (w64 (x7 - 1))) && decide ((w64 (x7 - 1)) < (x1.2.size : Int))) (ifb (decide (0 ≤ x7) && decide (x7 < (x1.2.size : Int))) (ifb (decide ((byteAt x1.2 (w64 (x7 - 1))) ≥ (byteAt x1.2 x7))) (some false) (impl_entryOk.L2 k k1 x1 x6 (w64 (x7 + 1)))) (none)) (none)) (impl_entryOk.L2 k k1 x1 x6 (w64 (x7 + 1))))) (none)) ((impl_WordOk.f k x1.1).bind fun (r1 : Bool) => ifb r1 (some (decide ((x1.2.size : Int) ≤ (4 : Int)))) (some false)) := by kernel_rfl
theorem impl_entryOk.ok (k : Nat) : CsOk Tryz.prog Jp (impl_entryOk.C k) := .cons (impl_upper.snd k) impl_upper.can <| .cons (impl_WordOk.snd k) impl_WordOk.can <| .nil
theorem impl_entryOk.can : Can Tryz.prog 88 := can_of (fn := Tryz.f88) (by kernel_rfl) (by kernel_rfl) (by kernel_rfl)
theorem impl_entryOk.snd (k : Nat) : Snd Tryz.prog Jp 88 ⟨impl_entryOk.ps, impl_entryOk.rs, impl_entryOk.F k⟩ := snd_of E_ok impl_entryOk.ok mixed (fn := Tryz.f88) (by kernel_rfl) (by kernel_rfl) (by kernel_rfl) k
noncomputable def impl_entriesOk.C (k : Nat) : CEs := [(88, ⟨impl_entryOk.ps, impl_entryOk.rs, impl_entryOk.F k⟩)]
abbrev impl_entriesOk.ps : List Par := [⟨t24, .rd⟩]
abbrev impl_entriesOk.rs : List Res := [⟨.bool, .ro, false⟩]
def impl_entriesOk.H : Heads := [(2, [(0, .ro), (5, .ro), (6, .ro), (7, .ro)])]
noncomputable def impl_entriesOk.F : Nat → ProdT (impl_entriesOk.ps.map (·.τ)) → Option (ProdT (outs impl_entriesOk.ps impl_entriesOk.rs)) := evFn E impl_entriesOk.C impl_entriesOk.H Tryz.f51 impl_entriesOk.ps impl_entriesOk.rs
noncomputable def impl_entriesOk.L2 (k k1 : Nat) (x0 : List En) (x5 : List En) (x6 : Int) (x7 : Int) : Option (Bool) := atL E impl_entriesOk.C impl_entriesOk.H Tryz.f51 impl_entriesOk.ps impl_entriesOk.rs [true, false, true, true] k [] k1 (sh 34 [(0, .d t24 x0 .ro), (5, .d t24 x5 .ro), (6, .d (.int .i64) x6 .ro), (7, .d (.int .i64) x7 .ro)])
noncomputable def impl_entriesOk.f (k : Nat) (x0 : List En) : Option (Bool) := impl_entriesOk.F k x0
theorem impl_entriesOk.f_eq (k : Nat) (x0 : List En) : impl_entriesOk.f k x0 = impl_entriesOk.L2 k k x0 x0 (x0.length : Int) (0 : Int) := by kernel_rfl
theorem impl_entriesOk.L2_eq (k k1 : Nat) (x0 : List En) (x5 : List En) (x6 : Int) (x7 : Int) : impl_entriesOk.L2 k (k1 + 1) x0 x5 x6 x7 = ifb (decide (x7 < x6)) (ifb (decide (0 ≤ x7) && decide (x7 < (x5.length : Int))) ((impl_entryOk.f k1 (x5.getD x7.toNat zE)).bind fun (r0 : Bool) => ifb (!r0) (some false) (ifb (decide (x7 > 0)) (ifb (decide (0 ≤ (w64 (x7 - 1))) && decide ((w64 (x7 - 1)) < (x0.length : Int))) (ifb (!(Op.bytesLess ((x0.getD ((w64 (x7 - 1)).toNat) zE).1).toList ((x5.getD x7.toNat zE).1).toList)) (some false) (impl_entriesOk.L2 k k1 x0 x5 x6 (w64 (x7 + 1)))) (none)) (impl_entriesOk.L2 k k1 x0 x5 x6 (w64 (x7 + 1))))) (none)) (some (decide ((x0.length : Int) ≤ (24 : Int)))) := by kernel_rfl
theorem impl_entriesOk.ok (k : Nat) : CsOk Tryz.prog Jp (impl_entriesOk.C k) := .cons (impl_entryOk.snd k) impl_entryOk.can <| .nil
theorem impl_entriesOk.can : Can Tryz.prog 51 := can_of (fn := Tryz.f51) (by kernel_rfl) (by kernel_rfl) (by kernel_rfl)
theorem impl_entriesOk.snd (k : Nat) : Snd Tryz.prog Jp 51 ⟨impl_entriesOk.ps, impl_entriesOk.rs, impl_entriesOk.F k⟩ := snd_of E_ok impl_entriesOk.ok mixed (fn := Tryz.f51) (by kernel_rfl) (by kernel_rfl) (by kernel_rfl) k
noncomputable def impl_BookOk.C (k : Nat) : CEs := [(52, ⟨impl_affixesOk.ps, impl_affixesOk.rs, impl_affixesOk.F k⟩), (51, ⟨impl_entriesOk.ps, impl_entriesOk.rs, impl_entriesOk.F k⟩)]
abbrev impl_BookOk.ps : List Par := [⟨t25, .rd⟩]
abbrev impl_BookOk.rs : List Res := [⟨.bool, .ro, false⟩]
def impl_BookOk.H : Heads := []
noncomputable def impl_BookOk.F : Nat → ProdT (impl_BookOk.ps.map (·.τ)) → Option (ProdT (outs impl_BookOk.ps impl_BookOk.rs)) := evFn E impl_BookOk.C impl_BookOk.H Tryz.f30 impl_BookOk.ps impl_BookOk.rs
noncomputable def impl_BookOk.f (k : Nat) (x0 : Book) : Option (Bool) := impl_BookOk.F k x0
theorem impl_BookOk.f_eq (k : Nat) (x0 : Book) : impl_BookOk.f k x0 = (impl_affixesOk.f k x0.1).bind fun (r0 : Bool) => ifb r0 ((impl_entriesOk.f k x0.2).bind fun (r1 : Bool) => some r1) (some false) := by kernel_rfl
theorem impl_BookOk.ok (k : Nat) : CsOk Tryz.prog Jp (impl_BookOk.C k) := .cons (impl_affixesOk.snd k) impl_affixesOk.can <| .cons (impl_entriesOk.snd k) impl_entriesOk.can <| .nil
theorem impl_BookOk.can : Can Tryz.prog 30 := can_of (fn := Tryz.f30) (by kernel_rfl) (by kernel_rfl) (by kernel_rfl)
theorem impl_BookOk.snd (k : Nat) : Snd Tryz.prog Jp 30 ⟨impl_BookOk.ps, impl_BookOk.rs, impl_BookOk.F k⟩ := snd_of E_ok impl_BookOk.ok mixed (fn := Tryz.f30) (by kernel_rfl) (by kernel_rfl) (by kernel_rfl) k
noncomputable def slices_Index_impl_Entry_impl_Entry.C (k : Nat) : CEs := []
abbrev slices_Index_impl_Entry_impl_Entry.ps : List Par := [⟨t24, .rd⟩, ⟨t37, .rd⟩]
abbrev slices_Index_impl_Entry_impl_Entry.rs : List Res := [⟨(.int .i64), .ro, false⟩]
def slices_Index_impl_Entry_impl_Entry.H : Heads := [(2, [(0, .ro), (3, .ro), (7, .ro), (8, .ro)])]
noncomputable def slices_Index_impl_Entry_impl_Entry.F : Nat → ProdT (slices_Index_impl_Entry_impl_Entry.ps.map (·.τ)) → Option (ProdT (outs slices_Index_impl_Entry_impl_Entry.ps slices_Index_impl_Entry_impl_Entry.rs)) := evFn E slices_Index_impl_Entry_impl_Entry.C slices_Index_impl_Entry_impl_Entry.H Tryz.f73 slices_Index_impl_Entry_impl_Entry.ps slices_Index_impl_Entry_impl_Entry.rs
noncomputable def slices_Index_impl_Entry_impl_Entry.L2 (k k1 : Nat) (x0 : List En) (x3 : ByteArray × ByteArray) (x7 : Int) (x8 : Int) : Option (Int) := atL E slices_Index_impl_Entry_impl_Entry.C slices_Index_impl_Entry_impl_Entry.H Tryz.f73 slices_Index_impl_Entry_impl_Entry.ps slices_Index_impl_Entry_impl_Entry.rs [true, false, true, true] k [] k1 (sh 19 [(0, .d t24 x0 .ro), (3, .box t37 x3 .ro none), (7, .d (.int .i64) x7 .ro), (8, .d (.int .i64) x8 .ro)])
noncomputable def slices_Index_impl_Entry_impl_Entry.f (k : Nat) (x0 : List En) (x1 : ByteArray × ByteArray) : Option (Int) := slices_Index_impl_Entry_impl_Entry.F k (x0, x1)
theorem slices_Index_impl_Entry_impl_Entry.f_eq (k : Nat) (x0 : List En) (x1 : ByteArray × ByteArray) : slices_Index_impl_Entry_impl_Entry.f k x0 x1 = slices_Index_impl_Entry_impl_Entry.L2 k k x0 x1 (x0.length : Int) (0 : Int) := by kernel_rfl
theorem slices_Index_impl_Entry_impl_Entry.L2_eq (k k1 : Nat) (x0 : List En) (x3 : ByteArray × ByteArray) (x7 : Int) (x8 : Int) : slices_Index_impl_Entry_impl_Entry.L2 k (k1 + 1) x0 x3 x7 x8 = ifb (decide (x8 < x7)) (ifb (decide (0 ≤ x8) && decide (x8 < (x0.length : Int))) (ifb ((x3.1.toList == ((x0.getD x8.toNat zE).1).toList) && (x3.2.toList == ((x0.getD x8.toNat zE).2).toList)) (some x8) (slices_Index_impl_Entry_impl_Entry.L2 k k1 x0 x3 x7 (w64 (x8 + 1)))) (none)) (some (-1 : Int)) := by kernel_rfl
theorem slices_Index_impl_Entry_impl_Entry.ok (k : Nat) : CsOk Tryz.prog Jp (slices_Index_impl_Entry_impl_Entry.C k) := .nil
theorem slices_Index_impl_Entry_impl_Entry.can : Can Tryz.prog 73 := can_of (fn := Tryz.f73) (by kernel_rfl) (by kernel_rfl) (by kernel_rfl)
theorem slices_Index_impl_Entry_impl_Entry.snd (k : Nat) : Snd Tryz.prog Jp 73 ⟨slices_Index_impl_Entry_impl_Entry.ps, slices_Index_impl_Entry_impl_Entry.rs, slices_Index_impl_Entry_impl_Entry.F k⟩ := snd_of E_ok slices_Index_impl_Entry_impl_Entry.ok mixed (fn := Tryz.f73) (by kernel_rfl) (by kernel_rfl) (by kernel_rfl) k
noncomputable def slices_Contains_impl_Entry_impl_Entry.C (k : Nat) : CEs := [(73, ⟨slices_Index_impl_Entry_impl_Entry.ps, slices_Index_impl_Entry_impl_Entry.rs, slices_Index_impl_Entry_impl_Entry.F k⟩)]
abbrev slices_Contains_impl_Entry_impl_Entry.ps : List Par := [⟨t24, .rd⟩, ⟨t37, .rd⟩]
abbrev slices_Contains_impl_Entry_impl_Entry.rs : List Res := [⟨.bool, .ro, false⟩]
def slices_Contains_impl_Entry_impl_Entry.H : Heads := []
noncomputable def slices_Contains_impl_Entry_impl_Entry.F : Nat → ProdT (slices_Contains_impl_Entry_impl_Entry.ps.map (·.τ)) → Option (ProdT (outs slices_Contains_impl_Entry_impl_Entry.ps slices_Contains_impl_Entry_impl_Entry.rs)) := evFn E slices_Contains_impl_Entry_impl_Entry.C slices_Contains_impl_Entry_impl_Entry.H Tryz.f32 slices_Contains_impl_Entry_impl_Entry.ps slices_Contains_impl_Entry_impl_Entry.rs
noncomputable def slices_Contains_impl_Entry_impl_Entry.f (k : Nat) (x0 : List En) (x1 : ByteArray × ByteArray) : Option (Bool) := slices_Contains_impl_Entry_impl_Entry.F k (x0, x1)
theorem slices_Contains_impl_Entry_impl_Entry.f_eq (k : Nat) (x0 : List En) (x1 : ByteArray × ByteArray) : slices_Contains_impl_Entry_impl_Entry.f k x0 x1 = (slices_Index_impl_Entry_impl_Entry.f k x0 x1).bind fun (r0 : Int) => some (decide (r0 ≥ (0 : Int))) := by kernel_rfl
theorem slices_Contains_impl_Entry_impl_Entry.ok (k : Nat) : CsOk Tryz.prog Jp (slices_Contains_impl_Entry_impl_Entry.C k) := .cons (slices_Index_impl_Entry_impl_Entry.snd k) slices_Index_impl_Entry_impl_Entry.can <| .nil
theorem slices_Contains_impl_Entry_impl_Entry.can : Can Tryz.prog 32 := can_of (fn := Tryz.f32) (by kernel_rfl) (by kernel_rfl) (by kernel_rfl)
theorem slices_Contains_impl_Entry_impl_Entry.snd (k : Nat) : Snd Tryz.prog Jp 32 ⟨slices_Contains_impl_Entry_impl_Entry.ps, slices_Contains_impl_Entry_impl_Entry.rs, slices_Contains_impl_Entry_impl_Entry.F k⟩ := snd_of E_ok slices_Contains_impl_Entry_impl_Entry.ok mixed (fn := Tryz.f32) (by kernel_rfl) (by kernel_rfl) (by kernel_rfl) k
noncomputable def slices_Equal_impl_Affix_impl_Affix.C (k : Nat) : CEs := []
abbrev slices_Equal_impl_Affix_impl_Affix.ps : List Par := [⟨t23, .rd⟩, ⟨t23, .rd⟩]
abbrev slices_Equal_impl_Affix_impl_Affix.rs : List Res := [⟨.bool, .ro, false⟩]
def slices_Equal_impl_Affix_impl_Affix.H : Heads := [(4, [(0, .ro), (1, .ro), (12, .ro), (13, .ro)])]
noncomputable def slices_Equal_impl_Affix_impl_Affix.F : Nat → ProdT (slices_Equal_impl_Affix_impl_Affix.ps.map (·.τ)) → Option (ProdT (outs slices_Equal_impl_Affix_impl_Affix.ps slices_Equal_impl_Affix_impl_Affix.rs)) := evFn E slices_Equal_impl_Affix_impl_Affix.C slices_Equal_impl_Affix_impl_Affix.H Tryz.f33 slices_Equal_impl_Affix_impl_Affix.ps slices_Equal_impl_Affix_impl_Affix.rs
noncomputable def slices_Equal_impl_Affix_impl_Affix.L4 (k k1 : Nat) (x0 : List Aff) (x1 : List Aff) (x12 : Int) (x13 : Int) : Option (Bool) := atL E slices_Equal_impl_Affix_impl_Affix.C slices_Equal_impl_Affix_impl_Affix.H Tryz.f33 slices_Equal_impl_Affix_impl_Affix.ps slices_Equal_impl_Affix_impl_Affix.rs [true, true, false, true, true] k [] k1 (sh 26 [(0, .d t23 x0 .ro), (1, .d t23 x1 .ro), (12, .d (.int .i64) x12 .ro), (13, .d (.int .i64) x13 .ro)])
noncomputable def slices_Equal_impl_Affix_impl_Affix.f (k : Nat) (x0 : List Aff) (x1 : List Aff) : Option (Bool) := slices_Equal_impl_Affix_impl_Affix.F k (x0, x1)
theorem slices_Equal_impl_Affix_impl_Affix.f_eq (k : Nat) (x0 : List Aff) (x1 : List Aff) : slices_Equal_impl_Affix_impl_Affix.f k x0 x1 = ifb ((x0.length : Int) != (x1.length : Int)) (some false) (slices_Equal_impl_Affix_impl_Affix.L4 k k x0 x1 (x0.length : Int) (0 : Int)) := by kernel_rfl
theorem slices_Equal_impl_Affix_impl_Affix.L4_eq (k k1 : Nat) (x0 : List Aff) (x1 : List Aff) (x12 : Int) (x13 : Int) : slices_Equal_impl_Affix_impl_Affix.L4 k (k1 + 1) x0 x1 x12 x13 = ifb (decide (x13 < x12)) (ifb (decide (0 ≤ x13) && decide (x13 < (x0.length : Int))) (ifb (decide (0 ≤ x13) && decide (x13 < (x1.length : Int))) (ifb (!((((x0.getD x13.toNat zA).1).toList == ((x1.getD x13.toNat zA).1).toList) && ((((x0.getD x13.toNat zA).2).1 == ((x1.getD x13.toNat zA).2).1) && ((((((x0.getD x13.toNat zA).2).2).1).toList == ((((x1.getD x13.toNat zA).2).2).1).toList) && (((((((x0.getD x13.toNat zA).2).2).2).1).toList == (((((x1.getD x13.toNat zA).2).2).2).1).toList) && ((((((x0.getD x13.toNat zA).2).2).2).2).toList == (((((x1.getD x13.toNat zA).2).2).2).2).toList)))))) (some false) (slices_Equal_impl_Affix_impl_Affix.L4 k k1 x0 x1 x12 (w64 (x13 + 1)))) (none)) (none)) (some true) := by kernel_rfl
theorem slices_Equal_impl_Affix_impl_Affix.ok (k : Nat) : CsOk Tryz.prog Jp (slices_Equal_impl_Affix_impl_Affix.C k) := .nil
theorem slices_Equal_impl_Affix_impl_Affix.can : Can Tryz.prog 33 := can_of (fn := Tryz.f33) (by kernel_rfl) (by kernel_rfl) (by kernel_rfl)
theorem slices_Equal_impl_Affix_impl_Affix.snd (k : Nat) : Snd Tryz.prog Jp 33 ⟨slices_Equal_impl_Affix_impl_Affix.ps, slices_Equal_impl_Affix_impl_Affix.rs, slices_Equal_impl_Affix_impl_Affix.F k⟩ := snd_of E_ok slices_Equal_impl_Affix_impl_Affix.ok mixed (fn := Tryz.f33) (by kernel_rfl) (by kernel_rfl) (by kernel_rfl) k
noncomputable def impl_DeltaOf.C (k : Nat) : CEs := [(31, ⟨impl_entryAt.ps, impl_entryAt.rs, impl_entryAt.F k⟩), (30, ⟨impl_BookOk.ps, impl_BookOk.rs, impl_BookOk.F k⟩), (32, ⟨slices_Contains_impl_Entry_impl_Entry.ps, slices_Contains_impl_Entry_impl_Entry.rs, slices_Contains_impl_Entry_impl_Entry.F k⟩), (33, ⟨slices_Equal_impl_Affix_impl_Affix.ps, slices_Equal_impl_Affix_impl_Affix.rs, slices_Equal_impl_Affix_impl_Affix.F k⟩)]
abbrev impl_DeltaOf.ps : List Par := [⟨t25, .rd⟩, ⟨t25, .rd⟩]
abbrev impl_DeltaOf.rs : List Res := [⟨t30, (.pr (.own .ro) (.pr (.own .ro) (.pr .ro (.own .ro)))), false⟩]
def impl_DeltaOf.H : Heads := [(5, [(2, .ro), (3, .ro), (4, (.pr (.own .ro) (.pr (.own .ro) (.pr .ro (.own .ro))))), (5, (.pr (.own .ro) (.pr (.own .ro) (.pr .ro (.own .ro))))), (24, .ro), (25, .ro), (26, .ro)]), (11, [(2, .ro), (3, .ro), (4, (.pr (.own .ro) (.pr (.own .ro) (.pr .ro (.own .ro))))), (5, (.pr (.own .ro) (.pr (.own .ro) (.pr .ro (.own .ro))))), (45, .ro), (46, .ro), (47, .ro)])]
noncomputable def impl_DeltaOf.F : Nat → ProdT (impl_DeltaOf.ps.map (·.τ)) → Option (ProdT (outs impl_DeltaOf.ps impl_DeltaOf.rs)) := evFn E impl_DeltaOf.C impl_DeltaOf.H Tryz.f7 impl_DeltaOf.ps impl_DeltaOf.rs
noncomputable def impl_DeltaOf.L5 (k k1 : Nat) (x2 : Book) (x3 : Book) (x4 : Delta) (x5 : Delta) (x24 : List En) (x25 : Int) (x26 : Int) : Option Delta := atL E impl_DeltaOf.C impl_DeltaOf.H Tryz.f7 impl_DeltaOf.ps impl_DeltaOf.rs [true, true, true, false, true, true] k [] k1 (sh 77 [(2, .box t25 x2 .ro none), (3, .box t25 x3 .ro none), (4, .box t30 x4 (.pr (.own .ro) (.pr (.own .ro) (.pr .ro (.own .ro)))) none), (5, .box t30 x5 (.pr (.own .ro) (.pr (.own .ro) (.pr .ro (.own .ro)))) none), (24, .d t24 x24 .ro), (25, .d (.int .i64) x25 .ro), (26, .d (.int .i64) x26 .ro)])
noncomputable def impl_DeltaOf.L11 (k k1 : Nat) (x2 : Book) (x3 : Book) (x4 : Delta) (x5 : Delta) (x45 : List En) (x46 : Int) (x47 : Int) : Option Delta := atL E impl_DeltaOf.C impl_DeltaOf.H Tryz.f7 impl_DeltaOf.ps impl_DeltaOf.rs [true, true, true, true, false, true, true] k [] k1 (sh 77 [(2, .box t25 x2 .ro none), (3, .box t25 x3 .ro none), (4, .box t30 x4 (.pr (.own .ro) (.pr (.own .ro) (.pr .ro (.own .ro)))) none), (5, .box t30 x5 (.pr (.own .ro) (.pr (.own .ro) (.pr .ro (.own .ro)))) none), (45, .d t24 x45 .ro), (46, .d (.int .i64) x46 .ro), (47, .d (.int .i64) x47 .ro)])
noncomputable def impl_DeltaOf.f (k : Nat) (x0 : Book) (x1 : Book) : Option Delta := impl_DeltaOf.F k (x0, x1)
theorem impl_DeltaOf.f_eq (k : Nat) (x0 : Book) (x1 : Book) : impl_DeltaOf.f k x0 x1 = (impl_BookOk.f k x0).bind fun (r0 : Bool) => ifb (!r0) (some (([] : List ByteArray), ([] : List En), false, ([] : List Aff))) ((impl_BookOk.f k x1).bind fun (r1 : Bool) => ifb (!r1) (some (([] : List ByteArray), ([] : List En), false, ([] : List Aff))) (impl_DeltaOf.L5 k k x0 x1 (([] : List ByteArray), ([] : List En), false, ([] : List Aff)) (([] : List ByteArray), ([] : List En), false, ([] : List Aff)) x0.2 (x0.2.length : Int) (0 : Int))) := by kernel_rfl
theorem impl_DeltaOf.L5_eq (k k1 : Nat) (x2 : Book) (x3 : Book) (x4 : Delta) (x5 : Delta) (x24 : List En) (x25 : Int) (x26 : Int) : impl_DeltaOf.L5 k (k1 + 1) x2 x3 x4 x5 x24 x25 x26 = ifb (decide (x26 < x25)) (ifb (decide (0 ≤ x26) && decide (x26 < (x24.length : Int))) ((impl_entryAt.f k1 x3.2 ((x24.getD x26.toNat zE).1)).bind fun (r2 : Int) => ifb (decide (r2 < 0)) (ifb (decide ((x5.1.length + [(x24.getD x26.toNat zE).1].length) * 16 ≤ rowMax)) (impl_DeltaOf.L5 k k1 x2 x3 x4 ((x5.1 ++ [(x24.getD x26.toNat zE).1]), x5.2) x24 x25 (w64 (x26 + 1))) (none)) (impl_DeltaOf.L5 k k1 x2 x3 x4 x5 x24 x25 (w64 (x26 + 1)))) (none)) (impl_DeltaOf.L11 k k x2 x3 x4 x5 x3.2 (x3.2.length : Int) (0 : Int)) := by kernel_rfl
theorem impl_DeltaOf.L11_eq (k k1 : Nat) (x2 : Book) (x3 : Book) (x4 : Delta) (x5 : Delta) (x45 : List En) (x46 : Int) (x47 : Int) : impl_DeltaOf.L11 k (k1 + 1) x2 x3 x4 x5 x45 x46 x47 = ifb (decide (x47 < x46)) (ifb (decide (0 ≤ x47) && decide (x47 < (x45.length : Int))) ((slices_Contains_impl_Entry_impl_Entry.f k1 x2.2 (x45.getD x47.toNat zE)).bind fun (r3 : Bool) => ifb (!r3) (ifb (decide ((x5.2.1.length + [(x45.getD x47.toNat zE)].length) * 32 ≤ rowMax)) (impl_DeltaOf.L11 k k1 x2 x3 x4 (x5.1, (x5.2.1 ++ [(x45.getD x47.toNat zE)]), x5.2.2) x45 x46 (w64 (x47 + 1))) (none)) (impl_DeltaOf.L11 k k1 x2 x3 x4 x5 x45 x46 (w64 (x47 + 1)))) (none)) ((slices_Equal_impl_Affix_impl_Affix.f k x2.1 x3.1).bind fun (r4 : Bool) => ifb (!r4) (ifb (decide ((x5.2.2.2.length + x3.1.length) * 72 ≤ rowMax)) (some (x5.1, x5.2.1, true, (x5.2.2.2 ++ x3.1))) (none)) (some x5)) := by kernel_rfl
theorem impl_DeltaOf.ok (k : Nat) : CsOk Tryz.prog Jp (impl_DeltaOf.C k) := .cons (impl_entryAt.snd k) impl_entryAt.can <| .cons (impl_BookOk.snd k) impl_BookOk.can <| .cons (slices_Contains_impl_Entry_impl_Entry.snd k) slices_Contains_impl_Entry_impl_Entry.can <| .cons (slices_Equal_impl_Affix_impl_Affix.snd k) slices_Equal_impl_Affix_impl_Affix.can <| .nil
theorem impl_DeltaOf.can : Can Tryz.prog 7 := can_of (fn := Tryz.f7) (by kernel_rfl) (by kernel_rfl) (by kernel_rfl)
theorem impl_DeltaOf.snd (k : Nat) : Snd Tryz.prog Jp 7 ⟨impl_DeltaOf.ps, impl_DeltaOf.rs, impl_DeltaOf.F k⟩ := snd_of E_ok impl_DeltaOf.ok mixed (fn := Tryz.f7) (by kernel_rfl) (by kernel_rfl) (by kernel_rfl) k
noncomputable def spec_l2Flag.C (k : Nat) : CEs := []
abbrev spec_l2Flag.ps : List Par := [⟨.str, .rd⟩]
abbrev spec_l2Flag.rs : List Res := [⟨.bool, .ro, false⟩]
def spec_l2Flag.H : Heads := []
noncomputable def spec_l2Flag.F : Nat → ProdT (spec_l2Flag.ps.map (·.τ)) → Option (ProdT (outs spec_l2Flag.ps spec_l2Flag.rs)) := evFn E spec_l2Flag.C spec_l2Flag.H Tryz.f74 spec_l2Flag.ps spec_l2Flag.rs
noncomputable def spec_l2Flag.f (k : Nat) (x0 : ByteArray) : Option (Bool) := spec_l2Flag.F k x0
theorem spec_l2Flag.f_eq (k : Nat) (x0 : ByteArray) : spec_l2Flag.f k x0 = ifb ((x0.size : Int) == (1 : Int)) (ifb (decide (0 ≤ (0 : Int)) && decide ((0 : Int) < (x0.size : Int))) (ifb (decide ((byteAt x0 (0 : Int)) ≥ (65 : Int))) (ifb (decide (0 ≤ (0 : Int)) && decide ((0 : Int) < (x0.size : Int))) (some (decide ((byteAt x0 (0 : Int)) ≤ (90 : Int)))) (none)) (some false)) (none)) (some false) := by kernel_rfl
theorem spec_l2Flag.ok (k : Nat) : CsOk Tryz.prog Jp (spec_l2Flag.C k) := .nil
theorem spec_l2Flag.can : Can Tryz.prog 74 := can_of (fn := Tryz.f74) (by kernel_rfl) (by kernel_rfl) (by kernel_rfl)
theorem spec_l2Flag.snd (k : Nat) : Snd Tryz.prog Jp 74 ⟨spec_l2Flag.ps, spec_l2Flag.rs, spec_l2Flag.F k⟩ := snd_of E_ok spec_l2Flag.ok mixed (fn := Tryz.f74) (by kernel_rfl) (by kernel_rfl) (by kernel_rfl) k
noncomputable def spec_l1Letters.C (k : Nat) : CEs := []
abbrev spec_l1Letters.ps : List Par := [⟨.str, .rd⟩, ⟨(.int .i64), .rd⟩]
abbrev spec_l1Letters.rs : List Res := [⟨.bool, .ro, false⟩]
def spec_l1Letters.H : Heads := [(2, [(0, .ro), (1, .ro), (5, .ro)])]
noncomputable def spec_l1Letters.F : Nat → ProdT (spec_l1Letters.ps.map (·.τ)) → Option (ProdT (outs spec_l1Letters.ps spec_l1Letters.rs)) := evFn E spec_l1Letters.C spec_l1Letters.H Tryz.f86 spec_l1Letters.ps spec_l1Letters.rs
noncomputable def spec_l1Letters.L2 (k k1 : Nat) (x0 : ByteArray) (x1 : Int) (x5 : Int) : Option (Bool) := atL E spec_l1Letters.C spec_l1Letters.H Tryz.f86 spec_l1Letters.ps spec_l1Letters.rs [true, false, true, true] k [] k1 (sh 26 [(0, .d .str x0 .ro), (1, .d (.int .i64) x1 .ro), (5, .d (.int .i64) x5 .ro)])
noncomputable def spec_l1Letters.f (k : Nat) (x0 : ByteArray) (x1 : Int) : Option (Bool) := spec_l1Letters.F k (x0, x1)
theorem spec_l1Letters.f_eq (k : Nat) (x0 : ByteArray) (x1 : Int) : spec_l1Letters.f k x0 x1 = spec_l1Letters.L2 k k x0 x1 (0 : Int) := by kernel_rfl
theorem spec_l1Letters.L2_eq (k k1 : Nat) (x0 : ByteArray) (x1 : Int) (x5 : Int) : spec_l1Letters.L2 k (k1 + 1) x0 x1 x5 = ifb (decide (x5 < (x0.size : Int))) (ifb (decide (0 ≤ x5) && decide (x5 < (x0.size : Int))) (ifb (decide ((byteAt x0 x5) < (97 : Int))) (some false) (ifb (decide (0 ≤ x5) && decide (x5 < (x0.size : Int))) (ifb (decide ((byteAt x0 x5) > (122 : Int))) (some false) (spec_l1Letters.L2 k k1 x0 x1 (w64 (x5 + 1)))) (none))) (none)) (some (decide ((x0.size : Int) ≤ x1))) := by kernel_rfl
theorem spec_l1Letters.ok (k : Nat) : CsOk Tryz.prog Jp (spec_l1Letters.C k) := .nil
theorem spec_l1Letters.can : Can Tryz.prog 86 := can_of (fn := Tryz.f86) (by kernel_rfl) (by kernel_rfl) (by kernel_rfl)
theorem spec_l1Letters.snd (k : Nat) : Snd Tryz.prog Jp 86 ⟨spec_l1Letters.ps, spec_l1Letters.rs, spec_l1Letters.F k⟩ := snd_of E_ok spec_l1Letters.ok mixed (fn := Tryz.f86) (by kernel_rfl) (by kernel_rfl) (by kernel_rfl) k
noncomputable def spec_l1Word.C (k : Nat) : CEs := [(86, ⟨spec_l1Letters.ps, spec_l1Letters.rs, spec_l1Letters.F k⟩)]
abbrev spec_l1Word.ps : List Par := [⟨.str, .rd⟩]
abbrev spec_l1Word.rs : List Res := [⟨.bool, .ro, false⟩]
def spec_l1Word.H : Heads := []
noncomputable def spec_l1Word.F : Nat → ProdT (spec_l1Word.ps.map (·.τ)) → Option (ProdT (outs spec_l1Word.ps spec_l1Word.rs)) := evFn E spec_l1Word.C spec_l1Word.H Tryz.f48 spec_l1Word.ps spec_l1Word.rs
noncomputable def spec_l1Word.f (k : Nat) (x0 : ByteArray) : Option (Bool) := spec_l1Word.F k x0
theorem spec_l1Word.f_eq (k : Nat) (x0 : ByteArray) : spec_l1Word.f k x0 = ifb (decide ((x0.size : Int) > 0)) ((spec_l1Letters.f k x0 (12 : Int)).bind fun (r0 : Bool) => some r0) (some false) := by kernel_rfl
theorem spec_l1Word.ok (k : Nat) : CsOk Tryz.prog Jp (spec_l1Word.C k) := .cons (spec_l1Letters.snd k) spec_l1Letters.can <| .nil
theorem spec_l1Word.can : Can Tryz.prog 48 := can_of (fn := Tryz.f48) (by kernel_rfl) (by kernel_rfl) (by kernel_rfl)
theorem spec_l1Word.snd (k : Nat) : Snd Tryz.prog Jp 48 ⟨spec_l1Word.ps, spec_l1Word.rs, spec_l1Word.F k⟩ := snd_of E_ok spec_l1Word.ok mixed (fn := Tryz.f48) (by kernel_rfl) (by kernel_rfl) (by kernel_rfl) k
noncomputable def spec_l2Entry.C (k : Nat) : CEs := [(74, ⟨spec_l2Flag.ps, spec_l2Flag.rs, spec_l2Flag.F k⟩), (48, ⟨spec_l1Word.ps, spec_l1Word.rs, spec_l1Word.F k⟩)]
abbrev spec_l2Entry.ps : List Par := [⟨t37, .rd⟩]
abbrev spec_l2Entry.rs : List Res := [⟨.bool, .ro, false⟩]
def spec_l2Entry.H : Heads := [(2, [(1, .ro), (3, .ro)])]
noncomputable def spec_l2Entry.F : Nat → ProdT (spec_l2Entry.ps.map (·.τ)) → Option (ProdT (outs spec_l2Entry.ps spec_l2Entry.rs)) := evFn E spec_l2Entry.C spec_l2Entry.H Tryz.f37 spec_l2Entry.ps spec_l2Entry.rs
noncomputable def spec_l2Entry.L2 (k k1 : Nat) (x1 : ByteArray × ByteArray) (x3 : Int) : Option (Bool) := atL E spec_l2Entry.C spec_l2Entry.H Tryz.f37 spec_l2Entry.ps spec_l2Entry.rs [true, false, true, true] k [] k1 (sh 44 [(1, .box t37 x1 .ro none), (3, .d (.int .i64) x3 .ro)])
noncomputable def spec_l2Entry.f (k : Nat) (x0 : ByteArray × ByteArray) : Option (Bool) := spec_l2Entry.F k x0
theorem spec_l2Entry.f_eq (k : Nat) (x0 : ByteArray × ByteArray) : spec_l2Entry.f k x0 = spec_l2Entry.L2 k k x0 (0 : Int) := by kernel_rfl
theorem spec_l2Entry.L2_eq (k k1 : Nat) (x1 : ByteArray × ByteArray) (x3 : Int) : spec_l2Entry.L2 k (k1 + 1) x1 x3 = ifb (decide (x3 < (x1.2.size : Int))) (ifb (decide (0 ≤ x3) && (decide (x3 ≤ (w64 (x3 + 1))) && decide ((w64 (x3 + 1)) ≤ (x1.2.size : Int)))) ((spec_l2Flag.f k1 (x1.2.extract x3.toNat (w64 (x3 + 1)).toNat)).bind fun (r0 : Bool) => ifb (!r0) (some false) (ifb (decide (x3 > 0)) (ifb (decide (0 ≤ (w64 (x3 - 1))) && decide ((w64 (x3 - 1)) < (x1.2.size : Int))) (ifb (decide (0 ≤ x3) && decide (x3 < (x1.2.size : Int))) (ifb (decide ((byteAt x1.2 (w64 (x3 - 1))) ≥ (byteAt x1.2 x3))) (some false) (spec_l2Entry.L2 k k1 x1 (w64 (x3 + 1)))) (none)) (none)) (spec_l2Entry.L2 k k1 x1 (w64 (x3 + 1))))) (none)) ((spec_l1Word.f k x1.1).bind fun (r1 : Bool) => ifb r1 (some (decide ((x1.2.size : Int) ≤ (4 : Int)))) (some false)) := by kernel_rfl
theorem spec_l2Entry.ok (k : Nat) : CsOk Tryz.prog Jp (spec_l2Entry.C k) := .cons (spec_l2Flag.snd k) spec_l2Flag.can <| .cons (spec_l1Word.snd k) spec_l1Word.can <| .nil
theorem spec_l2Entry.can : Can Tryz.prog 37 := can_of (fn := Tryz.f37) (by kernel_rfl) (by kernel_rfl) (by kernel_rfl)
theorem spec_l2Entry.snd (k : Nat) : Snd Tryz.prog Jp 37 ⟨spec_l2Entry.ps, spec_l2Entry.rs, spec_l2Entry.F k⟩ := snd_of E_ok spec_l2Entry.ok mixed (fn := Tryz.f37) (by kernel_rfl) (by kernel_rfl) (by kernel_rfl) k
noncomputable def spec_l2Begins.C (k : Nat) : CEs := []
abbrev spec_l2Begins.ps : List Par := [⟨.str, .rd⟩, ⟨.str, .rd⟩]
abbrev spec_l2Begins.rs : List Res := [⟨.bool, .ro, false⟩]
def spec_l2Begins.H : Heads := []
noncomputable def spec_l2Begins.F : Nat → ProdT (spec_l2Begins.ps.map (·.τ)) → Option (ProdT (outs spec_l2Begins.ps spec_l2Begins.rs)) := evFn E spec_l2Begins.C spec_l2Begins.H Tryz.f99 spec_l2Begins.ps spec_l2Begins.rs
noncomputable def spec_l2Begins.f (k : Nat) (x0 : ByteArray) (x1 : ByteArray) : Option (Bool) := spec_l2Begins.F k (x0, x1)
theorem spec_l2Begins.f_eq (k : Nat) (x0 : ByteArray) (x1 : ByteArray) : spec_l2Begins.f k x0 x1 = ifb (decide ((x0.size : Int) ≥ (x1.size : Int))) (ifb (decide (0 ≤ (0 : Int)) && (decide ((0 : Int) ≤ (x1.size : Int)) && decide ((x1.size : Int) ≤ (x0.size : Int)))) (some ((x0.extract (0 : Int).toNat (x1.size : Int).toNat).toList == x1.toList)) (none)) (some false) := by kernel_rfl
theorem spec_l2Begins.ok (k : Nat) : CsOk Tryz.prog Jp (spec_l2Begins.C k) := .nil
theorem spec_l2Begins.can : Can Tryz.prog 99 := can_of (fn := Tryz.f99) (by kernel_rfl) (by kernel_rfl) (by kernel_rfl)
theorem spec_l2Begins.snd (k : Nat) : Snd Tryz.prog Jp 99 ⟨spec_l2Begins.ps, spec_l2Begins.rs, spec_l2Begins.F k⟩ := snd_of E_ok spec_l2Begins.ok mixed (fn := Tryz.f99) (by kernel_rfl) (by kernel_rfl) (by kernel_rfl) k
noncomputable def spec_l2Ends.C (k : Nat) : CEs := []
abbrev spec_l2Ends.ps : List Par := [⟨.str, .rd⟩, ⟨.str, .rd⟩]
abbrev spec_l2Ends.rs : List Res := [⟨.bool, .ro, false⟩]
def spec_l2Ends.H : Heads := []
noncomputable def spec_l2Ends.F : Nat → ProdT (spec_l2Ends.ps.map (·.τ)) → Option (ProdT (outs spec_l2Ends.ps spec_l2Ends.rs)) := evFn E spec_l2Ends.C spec_l2Ends.H Tryz.f100 spec_l2Ends.ps spec_l2Ends.rs
noncomputable def spec_l2Ends.f (k : Nat) (x0 : ByteArray) (x1 : ByteArray) : Option (Bool) := spec_l2Ends.F k (x0, x1)
theorem spec_l2Ends.f_eq (k : Nat) (x0 : ByteArray) (x1 : ByteArray) : spec_l2Ends.f k x0 x1 = ifb (decide ((x0.size : Int) ≥ (x1.size : Int))) (ifb (decide (0 ≤ (w64 ((x0.size : Int) - (x1.size : Int)))) && (decide ((w64 ((x0.size : Int) - (x1.size : Int))) ≤ (x0.size : Int)) && decide ((x0.size : Int) ≤ (x0.size : Int)))) (some ((x0.extract (w64 ((x0.size : Int) - (x1.size : Int))).toNat (x0.size : Int).toNat).toList == x1.toList)) (none)) (some false) := by kernel_rfl
theorem spec_l2Ends.ok (k : Nat) : CsOk Tryz.prog Jp (spec_l2Ends.C k) := .nil
theorem spec_l2Ends.can : Can Tryz.prog 100 := can_of (fn := Tryz.f100) (by kernel_rfl) (by kernel_rfl) (by kernel_rfl)
theorem spec_l2Ends.snd (k : Nat) : Snd Tryz.prog Jp 100 ⟨spec_l2Ends.ps, spec_l2Ends.rs, spec_l2Ends.F k⟩ := snd_of E_ok spec_l2Ends.ok mixed (fn := Tryz.f100) (by kernel_rfl) (by kernel_rfl) (by kernel_rfl) k
noncomputable def spec_AffixOk.C (k : Nat) : CEs := [(74, ⟨spec_l2Flag.ps, spec_l2Flag.rs, spec_l2Flag.F k⟩), (86, ⟨spec_l1Letters.ps, spec_l1Letters.rs, spec_l1Letters.F k⟩), (99, ⟨spec_l2Begins.ps, spec_l2Begins.rs, spec_l2Begins.F k⟩), (100, ⟨spec_l2Ends.ps, spec_l2Ends.rs, spec_l2Ends.F k⟩)]
abbrev spec_AffixOk.ps : List Par := [⟨t66, .rd⟩]
abbrev spec_AffixOk.rs : List Res := [⟨.bool, .ro, false⟩]
def spec_AffixOk.H : Heads := []
noncomputable def spec_AffixOk.F : Nat → ProdT (spec_AffixOk.ps.map (·.τ)) → Option (ProdT (outs spec_AffixOk.ps spec_AffixOk.rs)) := evFn E spec_AffixOk.C spec_AffixOk.H Tryz.f75 spec_AffixOk.ps spec_AffixOk.rs
noncomputable def spec_AffixOk.f (k : Nat) (x0 : Aff) : Option (Bool) := spec_AffixOk.F k x0
theorem spec_AffixOk.f_eq (k : Nat) (x0 : Aff) : spec_AffixOk.f k x0 = (spec_l2Flag.f k x0.1).bind fun (r0 : Bool) => ifb (!r0) (some false) ((spec_l1Letters.f k x0.2.2.1 (4 : Int)).bind fun (r1 : Bool) => ifb (!r1) (some false) ((spec_l1Letters.f k x0.2.2.2.1 (4 : Int)).bind fun (r2 : Bool) => ifb (!r2) (some false) ((spec_l1Letters.f k x0.2.2.2.2 (4 : Int)).bind fun (r3 : Bool) => ifb (!r3) (some false) (ifb x0.2.1 ((spec_l2Begins.f k x0.2.2.2.2 x0.2.2.1).bind fun (r4 : Bool) => some r4) ((spec_l2Ends.f k x0.2.2.2.2 x0.2.2.1).bind fun (r5 : Bool) => some r5))))) := by kernel_rfl
theorem spec_AffixOk.ok (k : Nat) : CsOk Tryz.prog Jp (spec_AffixOk.C k) := .cons (spec_l2Flag.snd k) spec_l2Flag.can <| .cons (spec_l1Letters.snd k) spec_l1Letters.can <| .cons (spec_l2Begins.snd k) spec_l2Begins.can <| .cons (spec_l2Ends.snd k) spec_l2Ends.can <| .nil
theorem spec_AffixOk.can : Can Tryz.prog 75 := can_of (fn := Tryz.f75) (by kernel_rfl) (by kernel_rfl) (by kernel_rfl)
theorem spec_AffixOk.snd (k : Nat) : Snd Tryz.prog Jp 75 ⟨spec_AffixOk.ps, spec_AffixOk.rs, spec_AffixOk.F k⟩ := snd_of E_ok spec_AffixOk.ok mixed (fn := Tryz.f75) (by kernel_rfl) (by kernel_rfl) (by kernel_rfl) k
noncomputable def spec_l2Affixes.C (k : Nat) : CEs := [(75, ⟨spec_AffixOk.ps, spec_AffixOk.rs, spec_AffixOk.F k⟩)]
abbrev spec_l2Affixes.ps : List Par := [⟨t23, .rd⟩]
abbrev spec_l2Affixes.rs : List Res := [⟨.bool, .ro, false⟩]
def spec_l2Affixes.H : Heads := [(2, [(0, .ro), (3, .ro)]), (7, [(0, .ro), (3, .ro), (4, .ro)])]
noncomputable def spec_l2Affixes.F : Nat → ProdT (spec_l2Affixes.ps.map (·.τ)) → Option (ProdT (outs spec_l2Affixes.ps spec_l2Affixes.rs)) := evFn E spec_l2Affixes.C spec_l2Affixes.H Tryz.f38 spec_l2Affixes.ps spec_l2Affixes.rs
noncomputable def spec_l2Affixes.L2 (k k1 : Nat) (x0 : List Aff) (x3 : Int) : Option (Bool) := atL E spec_l2Affixes.C spec_l2Affixes.H Tryz.f38 spec_l2Affixes.ps spec_l2Affixes.rs [true, false, true, true] k [] k1 (sh 34 [(0, .d t23 x0 .ro), (3, .d (.int .i64) x3 .ro)])
noncomputable def spec_l2Affixes.L7 (k k1 k2 : Nat) (x0 : List Aff) (x3 : Int) (x4 : Int) : Option (Bool) := atL E spec_l2Affixes.C spec_l2Affixes.H Tryz.f38 spec_l2Affixes.ps spec_l2Affixes.rs [true, false, true, true, true, true, false, true, true, true, true] k [k1] k2 (sh 34 [(0, .d t23 x0 .ro), (3, .d (.int .i64) x3 .ro), (4, .d (.int .i64) x4 .ro)])
noncomputable def spec_l2Affixes.f (k : Nat) (x0 : List Aff) : Option (Bool) := spec_l2Affixes.F k x0
theorem spec_l2Affixes.f_eq (k : Nat) (x0 : List Aff) : spec_l2Affixes.f k x0 = spec_l2Affixes.L2 k k x0 (0 : Int) := by kernel_rfl
theorem spec_l2Affixes.L2_eq (k k1 : Nat) (x0 : List Aff) (x3 : Int) : spec_l2Affixes.L2 k (k1 + 1) x0 x3 = ifb (decide (x3 < (x0.length : Int))) (ifb (decide (0 ≤ x3) && decide (x3 < (x0.length : Int))) ((spec_AffixOk.f k1 (x0.getD x3.toNat zA)).bind fun (r0 : Bool) => ifb (!r0) (some false) (spec_l2Affixes.L7 k k1 k1 x0 x3 (0 : Int))) (none)) (some (decide ((x0.length : Int) ≤ (8 : Int)))) := by kernel_rfl
theorem spec_l2Affixes.L7_eq (k k1 k2 : Nat) (x0 : List Aff) (x3 : Int) (x4 : Int) : spec_l2Affixes.L7 k k1 (k2 + 1) x0 x3 x4 = ifb (decide (x4 < x3)) (ifb (decide (0 ≤ x4) && decide (x4 < (x0.length : Int))) (ifb (decide (0 ≤ x3) && decide (x3 < (x0.length : Int))) (ifb ((((x0.getD x4.toNat zA).1).toList == ((x0.getD x3.toNat zA).1).toList) && ((((x0.getD x4.toNat zA).2).1 == ((x0.getD x3.toNat zA).2).1) && ((((((x0.getD x4.toNat zA).2).2).1).toList == ((((x0.getD x3.toNat zA).2).2).1).toList) && (((((((x0.getD x4.toNat zA).2).2).2).1).toList == (((((x0.getD x3.toNat zA).2).2).2).1).toList) && ((((((x0.getD x4.toNat zA).2).2).2).2).toList == (((((x0.getD x3.toNat zA).2).2).2).2).toList))))) (some false) (spec_l2Affixes.L7 k k1 k2 x0 x3 (w64 (x4 + 1)))) (none)) (none)) (spec_l2Affixes.L2 k k1 x0 (w64 (x3 + 1))) := by kernel_rfl
theorem spec_l2Affixes.ok (k : Nat) : CsOk Tryz.prog Jp (spec_l2Affixes.C k) := .cons (spec_AffixOk.snd k) spec_AffixOk.can <| .nil
theorem spec_l2Affixes.can : Can Tryz.prog 38 := can_of (fn := Tryz.f38) (by kernel_rfl) (by kernel_rfl) (by kernel_rfl)
theorem spec_l2Affixes.snd (k : Nat) : Snd Tryz.prog Jp 38 ⟨spec_l2Affixes.ps, spec_l2Affixes.rs, spec_l2Affixes.F k⟩ := snd_of E_ok spec_l2Affixes.ok mixed (fn := Tryz.f38) (by kernel_rfl) (by kernel_rfl) (by kernel_rfl) k
noncomputable def spec_BookOk.C (k : Nat) : CEs := [(37, ⟨spec_l2Entry.ps, spec_l2Entry.rs, spec_l2Entry.F k⟩), (38, ⟨spec_l2Affixes.ps, spec_l2Affixes.rs, spec_l2Affixes.F k⟩)]
abbrev spec_BookOk.ps : List Par := [⟨t25, .rd⟩]
abbrev spec_BookOk.rs : List Res := [⟨.bool, .ro, false⟩]
def spec_BookOk.H : Heads := [(2, [(1, .ro), (3, .ro)])]
noncomputable def spec_BookOk.F : Nat → ProdT (spec_BookOk.ps.map (·.τ)) → Option (ProdT (outs spec_BookOk.ps spec_BookOk.rs)) := evFn E spec_BookOk.C spec_BookOk.H Tryz.f10 spec_BookOk.ps spec_BookOk.rs
noncomputable def spec_BookOk.L2 (k k1 : Nat) (x1 : Book) (x3 : Int) : Option (Bool) := atL E spec_BookOk.C spec_BookOk.H Tryz.f10 spec_BookOk.ps spec_BookOk.rs [true, false, true, true] k [] k1 (sh 47 [(1, .box t25 x1 .ro none), (3, .d (.int .i64) x3 .ro)])
noncomputable def spec_BookOk.f (k : Nat) (x0 : Book) : Option (Bool) := spec_BookOk.F k x0
theorem spec_BookOk.f_eq (k : Nat) (x0 : Book) : spec_BookOk.f k x0 = spec_BookOk.L2 k k x0 (0 : Int) := by kernel_rfl
theorem spec_BookOk.L2_eq (k k1 : Nat) (x1 : Book) (x3 : Int) : spec_BookOk.L2 k (k1 + 1) x1 x3 = ifb (decide (x3 < (x1.2.length : Int))) (ifb (decide (0 ≤ x3) && decide (x3 < (x1.2.length : Int))) ((spec_l2Entry.f k1 (x1.2.getD x3.toNat zE)).bind fun (r0 : Bool) => ifb (!r0) (some false) (ifb (decide (x3 > 0)) (ifb (decide (0 ≤ (w64 (x3 - 1))) && decide ((w64 (x3 - 1)) < (x1.2.length : Int))) (ifb (decide (0 ≤ x3) && decide (x3 < (x1.2.length : Int))) (ifb (!(Op.bytesLess ((x1.2.getD ((w64 (x3 - 1)).toNat) zE).1).toList ((x1.2.getD x3.toNat zE).1).toList)) (some false) (spec_BookOk.L2 k k1 x1 (w64 (x3 + 1)))) (none)) (none)) (spec_BookOk.L2 k k1 x1 (w64 (x3 + 1))))) (none)) ((spec_l2Affixes.f k x1.1).bind fun (r1 : Bool) => ifb r1 (some (decide ((x1.2.length : Int) ≤ (24 : Int)))) (some false)) := by kernel_rfl
theorem spec_BookOk.ok (k : Nat) : CsOk Tryz.prog Jp (spec_BookOk.C k) := .cons (spec_l2Entry.snd k) spec_l2Entry.can <| .cons (spec_l2Affixes.snd k) spec_l2Affixes.can <| .nil
theorem spec_BookOk.can : Can Tryz.prog 10 := can_of (fn := Tryz.f10) (by kernel_rfl) (by kernel_rfl) (by kernel_rfl)
theorem spec_BookOk.snd (k : Nat) : Snd Tryz.prog Jp 10 ⟨spec_BookOk.ps, spec_BookOk.rs, spec_BookOk.F k⟩ := snd_of E_ok spec_BookOk.ok mixed (fn := Tryz.f10) (by kernel_rfl) (by kernel_rfl) (by kernel_rfl) k
noncomputable def spec_l5At.C (k : Nat) : CEs := []
abbrev spec_l5At.ps : List Par := [⟨t24, .rd⟩, ⟨.str, .rd⟩]
abbrev spec_l5At.rs : List Res := [⟨(.int .i64), .ro, false⟩, ⟨.bool, .ro, false⟩]
def spec_l5At.H : Heads := [(2, [(0, .ro), (1, .ro), (6, .ro)])]
noncomputable def spec_l5At.F : Nat → ProdT (spec_l5At.ps.map (·.τ)) → Option (ProdT (outs spec_l5At.ps spec_l5At.rs)) := evFn E spec_l5At.C spec_l5At.H Tryz.f35 spec_l5At.ps spec_l5At.rs
noncomputable def spec_l5At.L2 (k k1 : Nat) (x0 : List En) (x1 : ByteArray) (x6 : Int) : Option (Int × Bool) := atL E spec_l5At.C spec_l5At.H Tryz.f35 spec_l5At.ps spec_l5At.rs [true, true, false, true] k [] k1 (sh 36 [(0, .d t24 x0 .ro), (1, .d .str x1 .ro), (6, .d (.int .i64) x6 .ro)])
noncomputable def spec_l5At.f (k : Nat) (x0 : List En) (x1 : ByteArray) : Option (Int × Bool) := spec_l5At.F k (x0, x1)
theorem spec_l5At.f_eq (k : Nat) (x0 : List En) (x1 : ByteArray) : spec_l5At.f k x0 x1 = spec_l5At.L2 k k x0 x1 (0 : Int) := by kernel_rfl
theorem spec_l5At.L2_eq (k k1 : Nat) (x0 : List En) (x1 : ByteArray) (x6 : Int) : spec_l5At.L2 k (k1 + 1) x0 x1 x6 = ifb (decide (x6 < (x0.length : Int))) (ifb (decide (0 ≤ x6) && decide (x6 < (x0.length : Int))) (ifb (Op.bytesLess ((x0.getD x6.toNat zE).1).toList x1.toList) (spec_l5At.L2 k k1 x0 x1 (w64 (x6 + 1))) (ifb (decide (x6 < (x0.length : Int))) (ifb (decide (0 ≤ x6) && decide (x6 < (x0.length : Int))) (some (x6, (((x0.getD x6.toNat zE).1).toList == x1.toList))) (none)) (some (x6, false)))) (none)) (ifb (decide (x6 < (x0.length : Int))) (ifb (decide (0 ≤ x6) && decide (x6 < (x0.length : Int))) (some (x6, (((x0.getD x6.toNat zE).1).toList == x1.toList))) (none)) (some (x6, false))) := by kernel_rfl
theorem spec_l5At.ok (k : Nat) : CsOk Tryz.prog Jp (spec_l5At.C k) := .nil
theorem spec_l5At.can : Can Tryz.prog 35 := can_of (fn := Tryz.f35) (by kernel_rfl) (by kernel_rfl) (by kernel_rfl)
theorem spec_l5At.snd (k : Nat) : Snd Tryz.prog Jp 35 ⟨spec_l5At.ps, spec_l5At.rs, spec_l5At.F k⟩ := snd_of E_ok spec_l5At.ok mixed (fn := Tryz.f35) (by kernel_rfl) (by kernel_rfl) (by kernel_rfl) k
noncomputable def spec_l5Affixes.C (k : Nat) : CEs := []
abbrev spec_l5Affixes.ps : List Par := [⟨t23, .rd⟩, ⟨t23, .rd⟩]
abbrev spec_l5Affixes.rs : List Res := [⟨.bool, .ro, false⟩]
def spec_l5Affixes.H : Heads := [(4, [(0, .ro), (1, .ro), (5, .ro)])]
noncomputable def spec_l5Affixes.F : Nat → ProdT (spec_l5Affixes.ps.map (·.τ)) → Option (ProdT (outs spec_l5Affixes.ps spec_l5Affixes.rs)) := evFn E spec_l5Affixes.C spec_l5Affixes.H Tryz.f36 spec_l5Affixes.ps spec_l5Affixes.rs
noncomputable def spec_l5Affixes.L4 (k k1 : Nat) (x0 : List Aff) (x1 : List Aff) (x5 : Int) : Option (Bool) := atL E spec_l5Affixes.C spec_l5Affixes.H Tryz.f36 spec_l5Affixes.ps spec_l5Affixes.rs [true, true, false, true, true] k [] k1 (sh 26 [(0, .d t23 x0 .ro), (1, .d t23 x1 .ro), (5, .d (.int .i64) x5 .ro)])
noncomputable def spec_l5Affixes.f (k : Nat) (x0 : List Aff) (x1 : List Aff) : Option (Bool) := spec_l5Affixes.F k (x0, x1)
theorem spec_l5Affixes.f_eq (k : Nat) (x0 : List Aff) (x1 : List Aff) : spec_l5Affixes.f k x0 x1 = ifb ((x0.length : Int) != (x1.length : Int)) (some false) (spec_l5Affixes.L4 k k x0 x1 (0 : Int)) := by kernel_rfl
theorem spec_l5Affixes.L4_eq (k k1 : Nat) (x0 : List Aff) (x1 : List Aff) (x5 : Int) : spec_l5Affixes.L4 k (k1 + 1) x0 x1 x5 = ifb (decide (x5 < (x0.length : Int))) (ifb (decide (0 ≤ x5) && decide (x5 < (x0.length : Int))) (ifb (decide (0 ≤ x5) && decide (x5 < (x1.length : Int))) (ifb (!((((x0.getD x5.toNat zA).1).toList == ((x1.getD x5.toNat zA).1).toList) && ((((x0.getD x5.toNat zA).2).1 == ((x1.getD x5.toNat zA).2).1) && ((((((x0.getD x5.toNat zA).2).2).1).toList == ((((x1.getD x5.toNat zA).2).2).1).toList) && (((((((x0.getD x5.toNat zA).2).2).2).1).toList == (((((x1.getD x5.toNat zA).2).2).2).1).toList) && ((((((x0.getD x5.toNat zA).2).2).2).2).toList == (((((x1.getD x5.toNat zA).2).2).2).2).toList)))))) (some false) (spec_l5Affixes.L4 k k1 x0 x1 (w64 (x5 + 1)))) (none)) (none)) (some true) := by kernel_rfl
theorem spec_l5Affixes.ok (k : Nat) : CsOk Tryz.prog Jp (spec_l5Affixes.C k) := .nil
theorem spec_l5Affixes.can : Can Tryz.prog 36 := can_of (fn := Tryz.f36) (by kernel_rfl) (by kernel_rfl) (by kernel_rfl)
theorem spec_l5Affixes.snd (k : Nat) : Snd Tryz.prog Jp 36 ⟨spec_l5Affixes.ps, spec_l5Affixes.rs, spec_l5Affixes.F k⟩ := snd_of E_ok spec_l5Affixes.ok mixed (fn := Tryz.f36) (by kernel_rfl) (by kernel_rfl) (by kernel_rfl) k
noncomputable def spec_DeltaOf.C (k : Nat) : CEs := [(10, ⟨spec_BookOk.ps, spec_BookOk.rs, spec_BookOk.F k⟩), (35, ⟨spec_l5At.ps, spec_l5At.rs, spec_l5At.F k⟩), (36, ⟨spec_l5Affixes.ps, spec_l5Affixes.rs, spec_l5Affixes.F k⟩)]
abbrev spec_DeltaOf.ps : List Par := [⟨t25, .rd⟩, ⟨t25, .rd⟩]
abbrev spec_DeltaOf.rs : List Res := [⟨t30, (.pr (.own .ro) (.pr (.own .ro) (.pr .ro (.own .ro)))), false⟩]
def spec_DeltaOf.H : Heads := [(5, [(2, .ro), (3, .ro), (4, (.pr (.own .ro) (.pr (.own .ro) (.pr .ro (.own .ro))))), (5, (.pr (.own .ro) (.pr (.own .ro) (.pr .ro (.own .ro))))), (6, .ro)]), (11, [(2, .ro), (3, .ro), (4, (.pr (.own .ro) (.pr (.own .ro) (.pr .ro (.own .ro))))), (5, (.pr (.own .ro) (.pr (.own .ro) (.pr .ro (.own .ro))))), (9, .ro)])]
noncomputable def spec_DeltaOf.F : Nat → ProdT (spec_DeltaOf.ps.map (·.τ)) → Option (ProdT (outs spec_DeltaOf.ps spec_DeltaOf.rs)) := evFn E spec_DeltaOf.C spec_DeltaOf.H Tryz.f9 spec_DeltaOf.ps spec_DeltaOf.rs
noncomputable def spec_DeltaOf.L5 (k k1 : Nat) (x2 : Book) (x3 : Book) (x4 : Delta) (x5 : Delta) (x6 : Int) : Option Delta := atL E spec_DeltaOf.C spec_DeltaOf.H Tryz.f9 spec_DeltaOf.ps spec_DeltaOf.rs [true, true, true, false, true, true] k [] k1 (sh 111 [(2, .box t25 x2 .ro none), (3, .box t25 x3 .ro none), (4, .box t30 x4 (.pr (.own .ro) (.pr (.own .ro) (.pr .ro (.own .ro)))) none), (5, .box t30 x5 (.pr (.own .ro) (.pr (.own .ro) (.pr .ro (.own .ro)))) none), (6, .d (.int .i64) x6 .ro)])
noncomputable def spec_DeltaOf.L11 (k k1 : Nat) (x2 : Book) (x3 : Book) (x4 : Delta) (x5 : Delta) (x9 : Int) : Option Delta := atL E spec_DeltaOf.C spec_DeltaOf.H Tryz.f9 spec_DeltaOf.ps spec_DeltaOf.rs [true, true, true, true, false, true, true] k [] k1 (sh 111 [(2, .box t25 x2 .ro none), (3, .box t25 x3 .ro none), (4, .box t30 x4 (.pr (.own .ro) (.pr (.own .ro) (.pr .ro (.own .ro)))) none), (5, .box t30 x5 (.pr (.own .ro) (.pr (.own .ro) (.pr .ro (.own .ro)))) none), (9, .d (.int .i64) x9 .ro)])
noncomputable def spec_DeltaOf.f (k : Nat) (x0 : Book) (x1 : Book) : Option Delta := spec_DeltaOf.F k (x0, x1)
theorem spec_DeltaOf.f_eq (k : Nat) (x0 : Book) (x1 : Book) : spec_DeltaOf.f k x0 x1 = (spec_BookOk.f k x0).bind fun (r0 : Bool) => ifb (!r0) (some (([] : List ByteArray), ([] : List En), false, ([] : List Aff))) ((spec_BookOk.f k x1).bind fun (r1 : Bool) => ifb (!r1) (some (([] : List ByteArray), ([] : List En), false, ([] : List Aff))) (spec_DeltaOf.L5 k k x0 x1 (([] : List ByteArray), ([] : List En), false, ([] : List Aff)) (([] : List ByteArray), ([] : List En), false, ([] : List Aff)) (0 : Int))) := by kernel_rfl
theorem spec_DeltaOf.L5_eq (k k1 : Nat) (x2 : Book) (x3 : Book) (x4 : Delta) (x5 : Delta) (x6 : Int) : spec_DeltaOf.L5 k (k1 + 1) x2 x3 x4 x5 x6 = ifb (decide (x6 < (x2.2.length : Int))) (ifb (decide (0 ≤ x6) && decide (x6 < (x2.2.length : Int))) ((spec_l5At.f k1 x3.2 ((x2.2.getD x6.toNat zE).1)).bind fun (r2 : Int × Bool) => ifb (!r2.2) (ifb (decide (0 ≤ x6) && decide (x6 < (x2.2.length : Int))) (ifb (decide ((x5.1.length + [(x2.2.getD x6.toNat zE).1].length) * 16 ≤ rowMax)) (spec_DeltaOf.L5 k k1 x2 x3 x4 ((x5.1 ++ [(x2.2.getD x6.toNat zE).1]), x5.2) (w64 (x6 + 1))) (none)) (none)) (spec_DeltaOf.L5 k k1 x2 x3 x4 x5 (w64 (x6 + 1)))) (none)) (spec_DeltaOf.L11 k k x2 x3 x4 x5 (0 : Int)) := by kernel_rfl
theorem spec_DeltaOf.L11_eq (k k1 : Nat) (x2 : Book) (x3 : Book) (x4 : Delta) (x5 : Delta) (x9 : Int) : spec_DeltaOf.L11 k (k1 + 1) x2 x3 x4 x5 x9 = ifb (decide (x9 < (x3.2.length : Int))) (ifb (decide (0 ≤ x9) && decide (x9 < (x3.2.length : Int))) ((spec_l5At.f k1 x2.2 ((x3.2.getD x9.toNat zE).1)).bind fun (r3 : Int × Bool) => ifb (!r3.2) (ifb (decide (0 ≤ x9) && decide (x9 < (x3.2.length : Int))) (ifb (decide ((x5.2.1.length + [(x3.2.getD x9.toNat zE)].length) * 32 ≤ rowMax)) (spec_DeltaOf.L11 k k1 x2 x3 x4 (x5.1, (x5.2.1 ++ [(x3.2.getD x9.toNat zE)]), x5.2.2) (w64 (x9 + 1))) (none)) (none)) (ifb (decide (0 ≤ r3.1) && decide (r3.1 < (x2.2.length : Int))) (ifb (decide (0 ≤ x9) && decide (x9 < (x3.2.length : Int))) (ifb (!((((x2.2.getD r3.1.toNat zE).1).toList == ((x3.2.getD x9.toNat zE).1).toList) && (((x2.2.getD r3.1.toNat zE).2).toList == ((x3.2.getD x9.toNat zE).2).toList))) (ifb (decide (0 ≤ x9) && decide (x9 < (x3.2.length : Int))) (ifb (decide ((x5.2.1.length + [(x3.2.getD x9.toNat zE)].length) * 32 ≤ rowMax)) (spec_DeltaOf.L11 k k1 x2 x3 x4 (x5.1, (x5.2.1 ++ [(x3.2.getD x9.toNat zE)]), x5.2.2) (w64 (x9 + 1))) (none)) (none)) (spec_DeltaOf.L11 k k1 x2 x3 x4 x5 (w64 (x9 + 1)))) (none)) (none))) (none)) ((spec_l5Affixes.f k x2.1 x3.1).bind fun (r4 : Bool) => ifb (!r4) (ifb (decide ((([] : List Aff).length + x3.1.length) * 72 ≤ rowMax)) (some (x5.1, x5.2.1, true, (([] : List Aff) ++ x3.1))) (none)) (some x5)) := by kernel_rfl
theorem spec_DeltaOf.ok (k : Nat) : CsOk Tryz.prog Jp (spec_DeltaOf.C k) := .cons (spec_BookOk.snd k) spec_BookOk.can <| .cons (spec_l5At.snd k) spec_l5At.can <| .cons (spec_l5Affixes.snd k) spec_l5Affixes.can <| .nil
theorem spec_DeltaOf.can : Can Tryz.prog 9 := can_of (fn := Tryz.f9) (by kernel_rfl) (by kernel_rfl) (by kernel_rfl)
theorem spec_DeltaOf.snd (k : Nat) : Snd Tryz.prog Jp 9 ⟨spec_DeltaOf.ps, spec_DeltaOf.rs, spec_DeltaOf.F k⟩ := snd_of E_ok spec_DeltaOf.ok mixed (fn := Tryz.f9) (by kernel_rfl) (by kernel_rfl) (by kernel_rfl) k
noncomputable def laws_mdTexts.C (k : Nat) : CEs := []
abbrev laws_mdTexts.ps : List Par := [⟨(.row .str), .rd⟩, ⟨(.row .str), .rd⟩]
abbrev laws_mdTexts.rs : List Res := [⟨.bool, .ro, false⟩]
def laws_mdTexts.H : Heads := [(4, [(0, .ro), (1, .ro), (5, .ro)])]
noncomputable def laws_mdTexts.F : Nat → ProdT (laws_mdTexts.ps.map (·.τ)) → Option (ProdT (outs laws_mdTexts.ps laws_mdTexts.rs)) := evFn E laws_mdTexts.C laws_mdTexts.H Tryz.f34 laws_mdTexts.ps laws_mdTexts.rs
noncomputable def laws_mdTexts.L4 (k k1 : Nat) (x0 : List ByteArray) (x1 : List ByteArray) (x5 : Int) : Option (Bool) := atL E laws_mdTexts.C laws_mdTexts.H Tryz.f34 laws_mdTexts.ps laws_mdTexts.rs [true, true, false, true, true] k [] k1 (sh 26 [(0, .d (.row .str) x0 .ro), (1, .d (.row .str) x1 .ro), (5, .d (.int .i64) x5 .ro)])
noncomputable def laws_mdTexts.f (k : Nat) (x0 : List ByteArray) (x1 : List ByteArray) : Option (Bool) := laws_mdTexts.F k (x0, x1)
theorem laws_mdTexts.f_eq (k : Nat) (x0 : List ByteArray) (x1 : List ByteArray) : laws_mdTexts.f k x0 x1 = ifb ((x0.length : Int) != (x1.length : Int)) (some false) (laws_mdTexts.L4 k k x0 x1 (0 : Int)) := by kernel_rfl
theorem laws_mdTexts.L4_eq (k k1 : Nat) (x0 : List ByteArray) (x1 : List ByteArray) (x5 : Int) : laws_mdTexts.L4 k (k1 + 1) x0 x1 x5 = ifb (decide (x5 < (x0.length : Int))) (ifb (decide (0 ≤ x5) && decide (x5 < (x0.length : Int))) (ifb (decide (0 ≤ x5) && decide (x5 < (x1.length : Int))) (ifb (!((x0.getD x5.toNat bz).toList == (x1.getD x5.toNat bz).toList)) (some false) (laws_mdTexts.L4 k k1 x0 x1 (w64 (x5 + 1)))) (none)) (none)) (some true) := by kernel_rfl
theorem laws_mdTexts.ok (k : Nat) : CsOk Tryz.prog Jp (laws_mdTexts.C k) := .nil
theorem laws_mdTexts.can : Can Tryz.prog 34 := can_of (fn := Tryz.f34) (by kernel_rfl) (by kernel_rfl) (by kernel_rfl)
theorem laws_mdTexts.snd (k : Nat) : Snd Tryz.prog Jp 34 ⟨laws_mdTexts.ps, laws_mdTexts.rs, laws_mdTexts.F k⟩ := snd_of E_ok laws_mdTexts.ok mixed (fn := Tryz.f34) (by kernel_rfl) (by kernel_rfl) (by kernel_rfl) k
noncomputable def laws_mdBook.C (k : Nat) : CEs := []
abbrev laws_mdBook.ps : List Par := [⟨t25, .rd⟩, ⟨t25, .rd⟩]
abbrev laws_mdBook.rs : List Res := [⟨.bool, .ro, false⟩]
def laws_mdBook.H : Heads := [(4, [(2, .ro), (3, .ro), (5, .ro)]), (9, [(2, .ro), (3, .ro), (6, .ro)])]
noncomputable def laws_mdBook.F : Nat → ProdT (laws_mdBook.ps.map (·.τ)) → Option (ProdT (outs laws_mdBook.ps laws_mdBook.rs)) := evFn E laws_mdBook.C laws_mdBook.H Tryz.f15 laws_mdBook.ps laws_mdBook.rs
noncomputable def laws_mdBook.L4 (k k1 : Nat) (x2 : Book) (x3 : Book) (x5 : Int) : Option (Bool) := atL E laws_mdBook.C laws_mdBook.H Tryz.f15 laws_mdBook.ps laws_mdBook.rs [true, true, false, true, true] k [] k1 (sh 59 [(2, .box t25 x2 .ro none), (3, .box t25 x3 .ro none), (5, .d (.int .i64) x5 .ro)])
noncomputable def laws_mdBook.L9 (k k1 : Nat) (x2 : Book) (x3 : Book) (x6 : Int) : Option (Bool) := atL E laws_mdBook.C laws_mdBook.H Tryz.f15 laws_mdBook.ps laws_mdBook.rs [true, true, true, false, true, true] k [] k1 (sh 59 [(2, .box t25 x2 .ro none), (3, .box t25 x3 .ro none), (6, .d (.int .i64) x6 .ro)])
noncomputable def laws_mdBook.f (k : Nat) (x0 : Book) (x1 : Book) : Option (Bool) := laws_mdBook.F k (x0, x1)
theorem laws_mdBook.f_eq (k : Nat) (x0 : Book) (x1 : Book) : laws_mdBook.f k x0 x1 = ifb ((x0.1.length : Int) != (x1.1.length : Int)) (some false) (ifb ((x0.2.length : Int) != (x1.2.length : Int)) (some false) (laws_mdBook.L4 k k x0 x1 (0 : Int))) := by kernel_rfl
theorem laws_mdBook.L4_eq (k k1 : Nat) (x2 : Book) (x3 : Book) (x5 : Int) : laws_mdBook.L4 k (k1 + 1) x2 x3 x5 = ifb (decide (x5 < (x2.1.length : Int))) (ifb (decide (0 ≤ x5) && decide (x5 < (x2.1.length : Int))) (ifb (decide (0 ≤ x5) && decide (x5 < (x3.1.length : Int))) (ifb (!((((x2.1.getD x5.toNat zA).1).toList == ((x3.1.getD x5.toNat zA).1).toList) && ((((x2.1.getD x5.toNat zA).2).1 == ((x3.1.getD x5.toNat zA).2).1) && ((((((x2.1.getD x5.toNat zA).2).2).1).toList == ((((x3.1.getD x5.toNat zA).2).2).1).toList) && (((((((x2.1.getD x5.toNat zA).2).2).2).1).toList == (((((x3.1.getD x5.toNat zA).2).2).2).1).toList) && ((((((x2.1.getD x5.toNat zA).2).2).2).2).toList == (((((x3.1.getD x5.toNat zA).2).2).2).2).toList)))))) (some false) (laws_mdBook.L4 k k1 x2 x3 (w64 (x5 + 1)))) (none)) (none)) (laws_mdBook.L9 k k x2 x3 (0 : Int)) := by kernel_rfl
theorem laws_mdBook.L9_eq (k k1 : Nat) (x2 : Book) (x3 : Book) (x6 : Int) : laws_mdBook.L9 k (k1 + 1) x2 x3 x6 = ifb (decide (x6 < (x2.2.length : Int))) (ifb (decide (0 ≤ x6) && decide (x6 < (x2.2.length : Int))) (ifb (decide (0 ≤ x6) && decide (x6 < (x3.2.length : Int))) (ifb (!((((x2.2.getD x6.toNat zE).1).toList == ((x3.2.getD x6.toNat zE).1).toList) && (((x2.2.getD x6.toNat zE).2).toList == ((x3.2.getD x6.toNat zE).2).toList))) (some false) (laws_mdBook.L9 k k1 x2 x3 (w64 (x6 + 1)))) (none)) (none)) (some true) := by kernel_rfl
theorem laws_mdBook.ok (k : Nat) : CsOk Tryz.prog Jp (laws_mdBook.C k) := .nil
theorem laws_mdBook.can : Can Tryz.prog 15 := can_of (fn := Tryz.f15) (by kernel_rfl) (by kernel_rfl) (by kernel_rfl)
theorem laws_mdBook.snd (k : Nat) : Snd Tryz.prog Jp 15 ⟨laws_mdBook.ps, laws_mdBook.rs, laws_mdBook.F k⟩ := snd_of E_ok laws_mdBook.ok mixed (fn := Tryz.f15) (by kernel_rfl) (by kernel_rfl) (by kernel_rfl) k
end Go.Proofs.YtabindnaedchgaaGreat.Rf
end

section
/- Entries put in one by one by their stems: the one sorted order. Plain. -/
namespace Go.Proofs.YtabindnaedchgaaGreat.Rf
open Go Go.RowKit
set_option linter.unusedVariables false
set_option linter.unusedSimpArgs false

def ltE (a b : (ByteArray × ByteArray)) : Bool := Op.bytesLess a.1.toList b.1.toList
theorem ltE_eq (a b : (ByteArray × ByteArray)) : ltE a b = Go.Sort.ltStr a.1.toList b.1.toList := Go.Proofs.bytesLess_eq _ _
theorem ltE_irrefl (a : (ByteArray × ByteArray)) : ltE a a = false := by
  rw [ltE_eq]
  exact Go.Sort.swo_ltStr.irrefl _
theorem ltE_trans {a b c : (ByteArray × ByteArray)} (h1 : ltE a b = true) (h2 : ltE b c = true) : ltE a c = true := by
  rw [ltE_eq] at *
  exact Go.Sort.swo_ltStr.trans _ _ _ h1 h2
theorem ltE_ntrans {a b c : (ByteArray × ByteArray)} (h1 : ltE a b = false) (h2 : ltE b c = false) : ltE a c = false := by
  rw [ltE_eq] at *
  exact Go.Sort.swo_ltStr.ntrans _ _ _ h1 h2
theorem ltE_asymm {a b : (ByteArray × ByteArray)} (h : ltE a b = true) : ltE b a = false := by
  cases h2 : ltE b a
  · rfl
  · have h3 := ltE_trans h h2
    rw [ltE_irrefl] at h3
    cases h3
theorem ltE_tri {a b : (ByteArray × ByteArray)} (h1 : ltE a b = false) (h2 : ltE b a = false) : a.1.toList = b.1.toList := by
  rw [ltE_eq] at *
  simp only [Go.Sort.ltStr, decide_eq_false_iff_not, List.not_lt] at h1 h2
  exact List.le_antisymm h2 h1
/-- An entry put in ahead of the first one whose stem is no less. -/
def insE (e : (ByteArray × ByteArray)) : List (ByteArray × ByteArray) → List (ByteArray × ByteArray)
  | [] => [e]
  | x :: xs => if ltE x e = true then x :: insE e xs else e :: x :: xs
theorem insE_perm (e : (ByteArray × ByteArray)) : ∀ l, (insE e l).Perm (e :: l)
  | [] => .refl _
  | x :: xs => by
    unfold insE
    split
    · exact ((insE_perm e xs).cons x).trans (.swap e x xs)
    · exact .refl _
theorem insE_sorted (e : (ByteArray × ByteArray)) : ∀ l, l.Pairwise (fun a b => ltE b a = false) → (insE e l).Pairwise (fun a b => ltE b a = false)
  | [], _ => by simp [insE]
  | x :: xs, h => by
    unfold insE
    have h' := List.pairwise_cons.1 h
    by_cases c : ltE x e = true
    · rw [if_pos c]
      refine List.pairwise_cons.2 ⟨fun b hb => ?_, insE_sorted e xs h'.2⟩
      rcases List.mem_cons.1 ((insE_perm e xs).mem_iff.1 hb) with z | hb
      · rw [z]
        exact ltE_asymm c
      · exact h'.1 b hb
    · rw [if_neg c]
      have c' : ltE x e = false := by simpa using c
      refine List.pairwise_cons.2 ⟨fun b hb => ?_, h⟩
      rcases List.mem_cons.1 hb with z | hb
      · rw [z]
        exact c'
      · exact ltE_ntrans (h'.1 b hb) c'
def sortE (xs : List (ByteArray × ByteArray)) : List (ByteArray × ByteArray) := xs.foldl (fun l e => insE e l) []
theorem fold_perm : ∀ (xs l : List (ByteArray × ByteArray)), (xs.foldl (fun l e => insE e l) l).Perm (l ++ xs)
  | [], l => by simp
  | x :: xs, l => by
    refine (fold_perm xs (insE x l)).trans ?_
    refine ((insE_perm x l).append_right xs).trans ?_
    exact (List.perm_middle (a := x) (l₁ := l) (l₂ := xs)).symm
theorem fold_sorted : ∀ (xs l : List (ByteArray × ByteArray)), l.Pairwise (fun a b => ltE b a = false) → (xs.foldl (fun l e => insE e l) l).Pairwise (fun a b => ltE b a = false)
  | [], l, h => h
  | x :: xs, l, h => fold_sorted xs _ (insE_sorted x l h)
theorem stem_inj : ∀ (xs : List (ByteArray × ByteArray)), (xs.map (fun e => e.1)).Pairwise (fun a b => a ≠ b) → ∀ a ∈ xs, ∀ b ∈ xs, a.1 = b.1 → a = b
  | [], _, a, ha, _, _, _ => by simp at ha
  | x :: xs, h, a, ha, b, hb, e => by
    rw [List.map_cons, List.pairwise_cons] at h
    rcases List.mem_cons.1 ha with za | ha' <;> rcases List.mem_cons.1 hb with zb | hb'
    · rw [za, zb]
    · rw [za] at e
      exact absurd e (h.1 _ (List.mem_map.2 ⟨b, hb', rfl⟩))
    · rw [zb] at e
      exact absurd e.symm (h.1 _ (List.mem_map.2 ⟨a, ha', rfl⟩))
    · exact stem_inj xs h.2 a ha' b hb' e
theorem sort_unique {xs ys : List (ByteArray × ByteArray)} (hd : (xs.map (fun e => e.1)).Pairwise (fun a b => a ≠ b)) (hp : ys.Perm xs) (hs : ys.Pairwise (fun a b => ltE b a = false)) : ys = sortE xs := by
  have hq : (sortE xs).Perm xs := by simpa [sortE] using fold_perm xs []
  refine List.Perm.eq_of_pairwise (le := fun a b => ltE b a = false) ?_ hs (fold_sorted xs [] .nil) (hp.trans hq.symm)
  intro a b ha hb h1 h2
  have e : a.1.toList = b.1.toList := ltE_tri h2 h1
  refine stem_inj xs hd a (hp.mem_iff.1 ha) b (hq.mem_iff.1 hb) ?_
  rw [ByteArray.toList_eq, ByteArray.toList_eq] at e
  exact ByteArray.ext (Array.toList_inj.1 e)
/-- What is sorted already stays. -/
theorem insE_last (e : (ByteArray × ByteArray)) : ∀ l, (∀ x ∈ l, ltE x e = true) → insE e l = l ++ [e]
  | [], _ => rfl
  | x :: xs, h => by
    unfold insE
    rw [if_pos (h x List.mem_cons_self), insE_last e xs (fun y hy => h y (List.mem_cons_of_mem _ hy))]
    rfl
theorem fold_self : ∀ (xs l : List (ByteArray × ByteArray)), (l ++ xs).Pairwise (fun a b => ltE a b = true) → xs.foldl (fun l e => insE e l) l = l ++ xs
  | [], l, _ => by simp
  | x :: xs, l, h => by
    have h1 : ∀ y ∈ l, ltE y x = true := fun y hy => (List.pairwise_append.1 h).2.2 y hy x List.mem_cons_self
    rw [List.foldl_cons, insE_last x l h1, fold_self xs (l ++ [x]) (by simpa using h)]
    simp
theorem sortE_append (xs ys : List (ByteArray × ByteArray)) (h : xs.Pairwise (fun a b => ltE a b = true)) : sortE (xs ++ ys) = ys.foldl (fun l e => insE e l) xs := by
  unfold sortE
  rw [List.foldl_append, fold_self xs [] (by simpa using h)]
  rfl
end Go.Proofs.YtabindnaedchgaaGreat.Rf
end

section
/- impl.sortEntries, walked by hand: its row holds the one sorted order, where stems are apart. -/
namespace Go.Proofs.YtabindnaedchgaaGreat.Rf
open Go Go.RowKit Go.Sort Go.Lib
set_option linter.unusedVariables false
set_option linter.unusedSimpArgs false
theorem isNaN_calls (s : ByteArray) (w : World) : Calls Tryz.prog 113 #[.string s] w fun e w' => e = .returned (.bool false) ∧ w' = w := by
  go_enter Tryz.func113, Tryz.ntmps113
  go_wp2
  go_ret
  exact ⟨by simp, rfl⟩
/-- How two texts are compared. -/
def cmpB (x y : ByteArray) : Int := if Op.bytesLess x.toList y.toList = true then -1 else if (!(Op.bytesLess x.toList y.toList || x.toList == y.toList)) = true then 1 else 0
theorem compare_calls (x y : ByteArray) (w : World) : Calls Tryz.prog 81 #[.string x, .string y] w fun e w' => e = .returned (.int .i64 (cmpB x y)) ∧ w' = w := by
  unfold cmpB
  cases h1 : Op.bytesLess x.toList y.toList
  · cases h2 : (x.toList == y.toList)
    · go_enter Tryz.func81, Tryz.ntmps81
      go_wp2_with (go_at_call 113; refine (isNaN_calls _ _).mono ?_; rintro e w' ⟨rfl, rfl⟩)
      go_ret
      exact ⟨by simp, rfl⟩
    · go_enter Tryz.func81, Tryz.ntmps81
      go_wp2_with (go_at_call 113; refine (isNaN_calls _ _).mono ?_; rintro e w' ⟨rfl, rfl⟩)
      go_ret
      exact ⟨by simp, rfl⟩
  · go_enter Tryz.func81, Tryz.ntmps81
    go_wp2_with (go_at_call 113; refine (isNaN_calls _ _).mono ?_; rintro e w' ⟨rfl, rfl⟩)
    go_ret
    exact ⟨by simp, rfl⟩
theorem cmpE_calls (x y : ByteArray × ByteArray) (w : World) : Calls Tryz.prog 80 #[.agg #[.string x.1, .string x.2], .agg #[.string y.1, .string y.2]] w fun e w' => e = .returned (.int .i64 (cmpB x.1 y.1)) ∧ ∃ q os, w' = Go.Sort.grow (w.drewN q) os := by
  go_enter Tryz.func80, Tryz.ntmps80
  go_wp2_with (go_at_call 81; refine (compare_calls _ _ _).mono ?_; rintro e w' ⟨rfl, rfl⟩)
  go_ret
  refine ⟨rfl, 0, #[.cells #[.string x.1, .string x.2] 38, .cells #[.string y.1, .string y.2] 38], ?_⟩
  unfold Go.Sort.grow
  rw [show (w.drewN 0).heap ++ #[Obj.cells #[.string x.1, .string x.2] 38, Obj.cells #[.string y.1, .string y.2] 38] = ((w.heap.push (.cells #[.string x.1, .string x.2] 38)).push (.cells #[.string y.1, .string y.2] 38)) from by apply Array.ext'; rw [show (w.drewN 0).heap = w.heap from rfl, Array.toList_append, Array.toList_push, Array.toList_push, List.append_assoc]; rfl]
  rfl
instance instSortE : Inhabited (ByteArray × ByteArray) := ⟨(ByteArray.empty, ByteArray.empty)⟩
def encS (x : ByteArray × ByteArray) : List Value := [.string x.1, .string x.2]
theorem ltOf_cmp (x y : ByteArray × ByteArray) : ltOf (fun a b : ByteArray × ByteArray => cmpB a.1 b.1) x y = ltE x y := by
  show decide (cmpB x.1 y.1 < 0) = _
  unfold cmpB ltE
  by_cases h : Op.bytesLess x.1.toList y.1.toList = true
  · rw [if_pos h, h]
    rfl
  · have h2 : Op.bytesLess x.1.toList y.1.toList = false := by simpa using h
    rw [if_neg h, h2]
    split <;> rfl
theorem swoE : SWO (ltOf fun a b : ByteArray × ByteArray => cmpB a.1 b.1) := by
  rw [show (ltOf fun a b : ByteArray × ByteArray => cmpB a.1 b.1) = ltE from funext fun x => funext fun y => ltOf_cmp x y]
  exact ⟨ltE_irrefl, fun _ _ _ => ltE_trans, fun _ _ _ => ltE_ntrans⟩
theorem flat_get (d : Array (ByteArray × ByteArray)) (j i : Nat) (hj : j < d.size) (hi : i < 2) : (flatK encS 2 d)[j * 2 + i]! = (encS d[j]!)[i]! := by
  rw [get_flatK encS 2 d (j * 2 + i) (by omega), show (j * 2 + i) / 2 = j from by omega, show (j * 2 + i) % 2 = i from by omega]
theorem heap_sorted {w : World} {g off : Nat} {cur : Array Value} {t : TypeId} {fz : Nat × Nat} (hh : w.heap[g]? = some (.cells cur t fz)) (d : Array (ByteArray × ByteArray)) (m : Nat) (os : Array Obj) :
    (sortWorldK encS 2 w g off m d os).heap[g]? = some (.cells (putCells id off (flatK encS 2 d) cur) t fz) := by
  have hlt : g < w.heap.size := (Array.getElem?_eq_some_iff.1 hh).1
  show ((w.heap.modify g (onCells (putCells id off (flatK encS 2 d)))) ++ os)[g]? = _
  rw [Array.getElem?_append_left (by rw [Array.size_modify]; exact hlt), Array.getElem?_modify, if_pos rfl, hh]
  rfl
theorem heap_other (w : World) (g off k : Nat) (hk : k ≠ g) (hlt : k < w.heap.size) (d : Array (ByteArray × ByteArray)) (m : Nat) (os : Array Obj) :
    (sortWorldK encS 2 w g off m d os).heap[k]? = w.heap[k]? := by
  show ((w.heap.modify g (onCells (putCells id off (flatK encS 2 d)))) ++ os)[k]? = _
  rw [Array.getElem?_append_left (by rw [Array.size_modify]; exact hlt), Array.getElem?_modify, if_neg (fun e => hk e.symm)]
theorem size_sorted (w : World) (g off : Nat) (d : Array (ByteArray × ByteArray)) (m : Nat) (os : Array Obj) : w.heap.size ≤ (sortWorldK encS 2 w g off m d os).heap.size := by
  show _ ≤ ((w.heap.modify g (onCells (putCells id off (flatK encS 2 d)))) ++ os).size
  rw [Array.size_append, Array.size_modify]
  omega
theorem cmp_lays (w : World) (blk off size : Nat) : CmpLays Tryz.prog 80 #[] encS 2 (fun a b => cmpB a.1 b.1) blk off size w := fun m os dk _ x y => by
  refine (cmpE_calls x y _).mono ?_
  rintro e w' ⟨rfl, q, os', rfl⟩
  exact ⟨rfl, q, os', rfl⟩
set_option maxHeartbeats 4000000 in
/-- the row in memory -/
theorem sort_calls (g off cap : Nat) (l : List (ByteArray × ByteArray)) (w : World) (cur : Array Value) (t : TypeId) (fz : Nat × Nat) (hh : w.heap[g]? = some (.cells cur t fz)) (hfz : ∀ o, o < cur.size → ¬(fz.1 ≤ o ∧ o < fz.2)) (hsz : off + l.length * 2 ≤ cur.size)
    (hc : ∀ j (hj : j < l.length), CAt w g (off + j * 2) [.string l[j].1, .string l[j].2]) (hd : (l.map (fun e => e.1)).Pairwise (fun a b => a ≠ b)) (hlen : l.length < 4611686018427387904) :
    Calls Tryz.prog 42 #[.slice (some ⟨g, off, none⟩) l.length cap] w fun e w' => e = .returned (.tuple #[]) ∧ ∃ d m os, d.size = l.length ∧ d.toList = sortE l ∧ w' = sortWorldK encS 2 w g off m d os := by
  have hgl : g < w.heap.size := (Array.getElem?_eq_some_iff.1 hh).1
  have eg : ∀ args w, (callFunc 80 args).run Tryz.prog w = .ok (.enter 80 args) w := enters_of Tryz.func80 (by kernel_rfl) rfl
  have hH : HoldsK encS 2 w g off l.toArray := by
    intro q hq
    have hq2 : q < l.length * 2 := by simpa using hq
    have hj : q / 2 < l.length := by omega
    have gf := get_flatK encS 2 l.toArray q (by simpa using hq2)
    have el : l.toArray[q / 2]! = l[q / 2] := getElem!_pos l.toArray (q / 2) (by simpa using hj)
    rw [el] at gf
    have hm : q % 2 = 0 ∨ q % 2 = 1 := by omega
    constructor
    · show _ = some ((flatK encS 2 l.toArray)[q]!)
      rw [gf]
      rcases hm with hm | hm <;> rw [hm]
      · have := hc (q / 2) hj 0 _ rfl
        rwa [show off + q / 2 * 2 + 0 = off + q by omega] at this
      · have := hc (q / 2) hj 1 _ rfl
        rwa [show off + q / 2 * 2 + 1 = off + q by omega] at this
    · have := hfz (off + q) (by omega)
      simp only [World.frozen?, hh]
      simp
      omega
  have hcall := AnyQ.slices_SortFunc Tryz.laysSort 2 Tryz.isAgg38 Tryz.sizeOf38 encS (fun _ => rfl) (fun x v hv => by simp [encS] at hv; rcases hv with rfl | rfl <;> rfl) (fun a b => cmpB a.1 b.1) swoE 80 #[] g off cap l.toArray w eg (cmp_lays w g off _) hH hgl (by simpa using hlen)
  have hcall' : Calls Tryz.prog 79 #[.slice (some ⟨g, off, none⟩) l.length cap, .func (.func 80) #[] #[]] w fun e w' => e = .returned (.tuple #[]) ∧ ∃ d' n os, PermIn 0 l.toArray.size l.toArray d' ∧ SortedIn (ltOf fun a b : ByteArray × ByteArray => cmpB a.1 b.1) 0 l.toArray.size d' ∧ w' = sortWorldK encS 2 w g off n d' os := by
    exact hcall
  clear hH hcall hc
  go_enter Tryz.func42, Tryz.ntmps42
  go_wp2_with (go_at_call 79; refine hcall'.mono ?_; rintro e w' ⟨rfl, d', m, os, hp, hs, rfl⟩)
  go_end0
  obtain ⟨hsz, _, hperm⟩ := hp
  have hsz' : d'.size = l.length := by simpa using hsz
  have hperm' : d'.toList.Perm l := by
    have e1 : d'.extract 0 l.toArray.size = d' := by rw [← hsz]; exact Array.extract_size
    rw [e1, Array.extract_size] at hperm
    simpa using hperm
  have hsort : d'.toList.Pairwise (fun a b => ltE b a = false) := by
    rw [List.pairwise_iff_getElem]
    intro i j hi hj hij
    have hi' : i < d'.size := by simpa using hi
    have hj' : j < d'.size := by simpa using hj
    have := hs i j (Nat.zero_le _) hij (by simpa [hsz'] using hj')
    rw [ltOf_cmp, getElem!_pos d' j hj', getElem!_pos d' i hi'] at this
    simpa using this
  exact ⟨rfl, d', m, os, hsz', sort_unique hd hperm' hsort, rfl⟩
abbrev impl_sortEntries.ps : List Par := [⟨.row (.st (.pair .str .str)), .io (.own .ro)⟩]
abbrev impl_sortEntries.rs : List Res := []
def impl_sortEntries.F (_ : Nat) (l : List (ByteArray × ByteArray)) : Option (List (ByteArray × ByteArray)) := if (l.map (fun e => e.1)).Pairwise (fun a b => a ≠ b) ∧ l.length < 4611686018427387904 then some (sortE l) else none
def impl_sortEntries.f (k : Nat) (l : List (ByteArray × ByteArray)) : Option (List (ByteArray × ByteArray)) := impl_sortEntries.F k l
theorem impl_sortEntries.can : Can Tryz.prog 42 := can_of (fn := Tryz.f42) (by kernel_rfl) (by kernel_rfl) (by kernel_rfl)
theorem sort_none (w : World) : Calls Tryz.prog 42 #[.slice none 0 0] w fun e w' => e = .returned (.tuple #[]) ∧ w' = w := by
  have hcall : Calls Tryz.prog 79 #[.slice none 0 0, .func (.func 80) #[] #[]] w fun e w' => e = .returned (.tuple #[]) ∧ w' = w := AnyF.slices_SortFunc_none Tryz.laysSort none 0 _ w
  go_enter Tryz.func42, Tryz.ntmps42
  go_wp2_with (go_at_call 79; refine hcall.mono ?_; rintro e w' ⟨rfl, rfl⟩)
  go_end0
  exact ⟨rfl, rfl⟩
theorem impl_sortEntries.snd (k : Nat) : Snd Tryz.prog Jp 42 ⟨impl_sortEntries.ps, impl_sortEntries.rs, impl_sortEntries.F k⟩ := by
  intro l r hr ξ w vs tk wf hG hsz lt dj hargs
  simp only [impl_sortEntries.F] at hr
  split at hr
  case isFalse => cases hr
  rename_i hd
  obtain ⟨hd, hlen⟩ := hd
  obtain rfl := Option.some.inj hr
  obtain ⟨cs, h0, h1⟩ := hargs 0 _ _ rfl rfl
  have h1 : Rel ξ w (.row (.st (.pair .str .str))) (.own .ro) l cs (tk 0) := h1
  rcases h1 with ⟨hl, hcs⟩ | ⟨a, cap, c, t, fz, Te, hcs, h2, h3, h4, h5, h6, h7, h8, h9, h10, h11⟩
  · have hl : l = [] := hl
    subst hl
    subst hcs
    obtain rfl := vs_one hsz h0
    refine (sort_none w).mono ?_
    rintro e w' ⟨rfl, rfl⟩
    refine ⟨_, ξ, Em, Em, rfl, Fr.refl _ _ _, wf, rfl, fun i p hi hp => ?_, Dj.em _, fun b hb => hb.elim (fun x => x.elim) fun x => x.elim⟩
    cases i with
    | zero =>
      simp only [List.getElem?_cons_zero, Option.some.injEq] at hi
      subst hi
      exact ⟨⟨.row (.st (.pair .str .str)), ([] : List (ByteArray × ByteArray))⟩, rfl, rfl, [.slice none 0 0], rfl, .inl ⟨rfl, rfl⟩⟩
    | succ i => simp at hi
  · obtain ⟨g, off, sp⟩ := a
    simp only at h2 h3 h4 h7 h8 h9 h11
    subst h2
    subst hcs
    obtain rfl := vs_one hsz h0
    have hn : (Ty.st (.pair .str .str)).n = 2 := rfl
    have h7 : off + cap * 2 ≤ c.size := h7
    have h6 : l.length ≤ cap := h6
    have hgl : g < w.heap.size := (Array.getElem?_eq_some_iff.1 h4).1
    refine (sort_calls g off cap l w c t fz h4 h5 (by omega) (fun j hj => ?_) hd hlen).mono ?_
    · obtain ⟨c', k1, k2, k3⟩ := h11 j hj
      obtain rfl := rel_pair k3
      exact k2
    · rintro e w' ⟨rfl, d, m, os, e1, e2, rfl⟩
      have hh := heap_sorted (off := off) h4 d m os
      have hcell : ∀ o, (sortWorldK encS 2 w g off m d os).cell? ⟨g, o, none⟩ = (putCells id off (flatK encS 2 d) c)[o]? := fun o => cell_of hh o
      have hps : (putCells id off (flatK encS 2 d) c).size = c.size := by simp [putCells]
      have F : Fr (fun b => ∃ i, tk i b) ξ w ξ (sortWorldK encS 2 w g off m d os) := by
        refine ⟨rfl, rfl, rfl, size_sorted _ _ _ _ _ _, fun b hb hn => ⟨heap_other w g off b (fun e => hn ⟨0, e ▸ h3⟩) hb d m os, rfl⟩, fun b o v ho hv => ?_, fun _ _ => Nat.le_refl _⟩
        by_cases hb : b = g
        · subst hb
          have h8 : ξ b ≤ off := h8
          rw [hcell, putCells, Array.getElem?_mapIdx]
          rw [cell_of h4] at hv
          rw [hv, Option.map_some, if_neg (by omega)]
        · rw [cell_eq (heap_other w g off b hb (cell_lt hv) d m os)]
          exact hv
      refine ⟨_, ξ, Em, tk 0, rfl, F, fun b hb => wf b (Nat.le_trans (size_sorted _ _ _ _ _ _) hb), rfl, fun i p hi hp => ?_, Dj.em _, fun b hb => hb.elim (fun x => x.elim) fun x => ⟨.inl ⟨0, x⟩, Nat.lt_of_lt_of_le (lt 0 b x) (size_sorted _ _ _ _ _ _)⟩⟩
      cases i with
      | succ i => simp at hi
      | zero =>
        simp only [List.getElem?_cons_zero, Option.some.injEq] at hi
        subst hi
        have hls : (sortE l).length = l.length := by rw [← e2, Array.length_toList, e1]
        refine ⟨⟨.row (.st (.pair .str .str)), sortE l⟩, rfl, rfl, [.slice (some ⟨g, off, none⟩) l.length cap], rfl, .inr ⟨⟨g, off, none⟩, cap, _, t, fz, fun _ => Em, by rw [hls], rfl, h3, hh, ?_, ?_, ?_, h8, fun i => ⟨Sb.em _, fun x => x⟩, fun _ _ _ => Dj.em _, fun i hi => ?_⟩⟩
        · rw [hps]; exact h5
        · rw [hls]; exact h6
        · rw [hps]; exact h7
        · have hi' : i < d.size := by rw [e1, ← hls]; exact hi
          have hd' : d[i]! = (sortE l)[i] := by
            rw [getElem!_pos d i hi']
            have : d.toList[i]? = (sortE l)[i]? := by rw [e2]
            rw [List.getElem?_eq_getElem (by simpa using hi'), List.getElem?_eq_getElem hi] at this
            simpa using this
          refine ⟨[.string (sortE l)[i].1, .string (sortE l)[i].2], rfl, ?_, pair_rel _ _ _ _⟩
          intro j v hv
          have hj : j < 2 := (List.getElem?_eq_some_iff.1 hv).1
          show (sortWorldK encS 2 w g off m d os).cell? ⟨g, off + i * 2 + j, none⟩ = some v
          have hlt : off + i * 2 + j < c.size := by omega
          rw [hcell, putCells, Array.getElem?_mapIdx, Array.getElem?_eq_getElem hlt, Option.map_some, if_pos ⟨by omega, by rw [size_flatK]; omega⟩]
          rw [show off + i * 2 + j - off = i * 2 + j by omega, flat_get d i j hi' hj, hd', ← hv]
          match j, hj with
          | 0, _ => rfl
          | 1, _ => rfl
end Go.Proofs.YtabindnaedchgaaGreat.Rf
end

section
/- What the program computes, told plainly: words, affixes, entries, books, deltas. Nothing of any program. -/
namespace Go.Proofs.YtabindnaedchgaaGreat.Rf
open Go Go.RowKit
def Sm (n : Nat) : Prop := n ≤ 4611686018427387904
def smA (a : Aff) : Prop := Sm a.1.size ∧ Sm a.2.2.1.size ∧ Sm a.2.2.2.1.size ∧ Sm a.2.2.2.2.size
def smE (e : En) : Prop := Sm e.1.size ∧ Sm e.2.size
def smB (b : Book) : Prop := (b.1.length ≤ 1099511627776 ∧ ∀ a ∈ b.1, smA a) ∧ b.2.length ≤ 1099511627776 ∧ ∀ e ∈ b.2, smE e
def smD (d : Delta) : Prop := (d.1.length ≤ 1099511627776 ∧ ∀ s ∈ d.1, Sm s.size) ∧ (d.2.1.length ≤ 1099511627776 ∧ ∀ e ∈ d.2.1, smE e) ∧ d.2.2.2.length ≤ 1099511627776 ∧ ∀ a ∈ d.2.2.2, smA a
def lowB (n : Nat) : Bool := decide (97 ≤ n) && decide (n ≤ 122)
def upB (n : Nat) : Bool := decide (65 ≤ n) && decide (n ≤ 90)
def lowsB (s : ByteArray) : Bool := allN s.size fun i => lowB (bN s i)
def lettersB (s : ByteArray) (m : Nat) : Bool := lowsB s && decide (s.size ≤ m)
def wordB (s : ByteArray) : Bool := decide (0 < s.size) && lettersB s 12
def flagB (s : ByteArray) : Bool := decide (s.size = 1) && upB (bN s 0)
def begB (s w : ByteArray) : Bool := decide (w.size ≤ s.size) && decide (s.extract 0 w.size = w)
def endB (s w : ByteArray) : Bool := decide (w.size ≤ s.size) && decide (s.extract (s.size - w.size) s.size = w)
def affB (a : Aff) : Bool := flagB a.1 && (lettersB a.2.2.1 4 && (lettersB a.2.2.2.1 4 && (lettersB a.2.2.2.2 4 && if a.2.1 then begB a.2.2.2.2 a.2.2.1 else endB a.2.2.2.2 a.2.2.1)))
def ltS (s t : ByteArray) : Bool := Op.bytesLess s.toList t.toList
def entB (e : En) : Bool := (allN e.2.size fun i => upB (bN e.2 i) && (decide (i = 0) || decide (bN e.2 (i - 1) < bN e.2 i))) && (wordB e.1 && decide (e.2.size ≤ 4))
def affsB (l : List Aff) : Bool := (allN l.length fun i => affB (l.getD i zA) && allN i fun j => !decide (l.getD j zA = l.getD i zA)) && decide (l.length ≤ 8)
def entsB (l : List En) : Bool := (allN l.length fun i => entB (l.getD i zE) && (decide (i = 0) || ltS (l.getD (i - 1) zE).1 (l.getD i zE).1)) && decide (l.length ≤ 24)
def wordsB (l : List ByteArray) : Bool := (allN l.length fun i => wordB (l.getD i bz) && (decide (i = 0) || ltS (l.getD (i - 1) bz) (l.getD i bz))) && decide (l.length ≤ 24)
def bookB (b : Book) : Bool := affsB b.1 && entsB b.2
/-- a stem is one of a list's -/
def hasE (l : List En) (s : ByteArray) : Bool := l.any fun e => decide (e.1 = s)
def deltaB (d : Delta) : Bool := wordsB d.1 && (entsB d.2.1 && (affsB d.2.2.2 && ((d.2.2.1 || decide (d.2.2.2.length = 0)) && d.1.all fun s => !hasE d.2.1 s)))
end Go.Proofs.YtabindnaedchgaaGreat.Rf
end
