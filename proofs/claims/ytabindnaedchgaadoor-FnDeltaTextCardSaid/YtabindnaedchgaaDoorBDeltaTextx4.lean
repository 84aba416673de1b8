import Derived.Test.YtabindnaedchgaaDoorBDeltaTextx3
import Derived.Shelf.SlicesQ.IndexFunc
import Derived.Ground.SlgfProg
import Derived.Test.YtabindnaedchgaaDoorProg
import Derived.Lib.SliceRun
import Derived.Deep.Draws
import Derived.Sort.LotA
import Derived.Sort.Walk0

section
/- Functions of the program, told plainly, and their contracts: part A0. -/
namespace Go.Proofs.YtabindnaedchgaaDoor.Rf
open Go Go.RowKit
set_option linter.unusedVariables false
noncomputable def spec_l1Open.C (k : Nat) : CEs := []
abbrev spec_l1Open.ps : List Par := [⟨t32, .rd⟩]
abbrev spec_l1Open.rs : List Res := [⟨t80, .ro, true⟩]
def spec_l1Open.H : Heads := [(3, [(0, .ro)])]
noncomputable def spec_l1Open.F : Nat → ProdT (spec_l1Open.ps.map (·.τ)) → Option (ProdT (outs spec_l1Open.ps spec_l1Open.rs)) := evFn E spec_l1Open.C spec_l1Open.H Tryd.f34 spec_l1Open.ps spec_l1Open.rs
noncomputable def spec_l1Open.J3 (k : Nat) (x0 : List Int) : Option (List Int × Int) := atJ E spec_l1Open.C spec_l1Open.H Tryd.f34 spec_l1Open.ps spec_l1Open.rs [true, true] 0 [] k (sh 11 [(0, .d t32 x0 .ro)])
noncomputable def spec_l1Open.f (k : Nat) (x0 : List Int) : Option (List Int × Int) := spec_l1Open.F k x0
theorem spec_l1Open.f_eq (k : Nat) (x0 : List Int) : spec_l1Open.f k x0 = ifb (decide ((x0.length : Int) > (2000 : Int))) (ifb (decide (0 ≤ (0 : Int)) && (decide ((0 : Int) ≤ (2000 : Int)) && decide ((2000 : Int) ≤ (x0.length : Int)))) (spec_l1Open.J3 k ((x0.take (2000 : Int).toNat).drop (0 : Int).toNat)) (none)) (spec_l1Open.J3 k x0) := by kernel_rfl
theorem spec_l1Open.J3_eq (k : Nat) (x0 : List Int) : spec_l1Open.J3 (k + 1) x0 = some (x0, (0 : Int)) := by kernel_rfl
theorem spec_l1Open.ok (k : Nat) : CsOk Tryd.prog Jp (spec_l1Open.C k) := .nil
theorem spec_l1Open.can : Can Tryd.prog 34 := can_of (fn := Tryd.f34) (by kernel_rfl) (by kernel_rfl) (by kernel_rfl)
theorem spec_l1Open.snd (k : Nat) : Snd Tryd.prog Jp 34 ⟨spec_l1Open.ps, spec_l1Open.rs, spec_l1Open.F k⟩ := snd_of E_ok spec_l1Open.ok mixed (fn := Tryd.f34) (by kernel_rfl) (by kernel_rfl) (by kernel_rfl) k
noncomputable def spec_l1Rd__pick.C (k : Nat) : CEs := []
abbrev spec_l1Rd__pick.ps : List Par := [⟨t80, .bx .ro⟩, ⟨(.int .i64), .rd⟩]
abbrev spec_l1Rd__pick.rs : List Res := [⟨(.int .i64), .ro, false⟩]
def spec_l1Rd__pick.H : Heads := [(8, [(0, (.pr .ro .ro)), (1, .ro), (6, .ro)])]
noncomputable def spec_l1Rd__pick.F : Nat → ProdT (spec_l1Rd__pick.ps.map (·.τ)) → Option (ProdT (outs spec_l1Rd__pick.ps spec_l1Rd__pick.rs)) := evFn E spec_l1Rd__pick.C spec_l1Rd__pick.H Tryd.f58 spec_l1Rd__pick.ps spec_l1Rd__pick.rs
noncomputable def spec_l1Rd__pick.J8 (k : Nat) (x0 : List Int × Int) (x1 : Int) (x6 : Int) : Option (Int × (List Int × Int)) := atJ E spec_l1Rd__pick.C spec_l1Rd__pick.H Tryd.f58 spec_l1Rd__pick.ps spec_l1Rd__pick.rs [true, true, true, true, true, true] 0 [] k (sh 99 [(0, .box t80 x0 (.pr .ro .ro) none), (1, .d (.int .i64) x1 .ro), (6, .d (.int .i64) x6 .ro)])
noncomputable def spec_l1Rd__pick.f (k : Nat) (x0 : List Int × Int) (x1 : Int) : Option (Int × (List Int × Int)) := spec_l1Rd__pick.F k (x0, x1)
theorem spec_l1Rd__pick.f_eq (k : Nat) (x0 : List Int × Int) (x1 : Int) : spec_l1Rd__pick.f k x0 x1 = ifb (decide (x1 < (1 : Int))) (some ((0 : Int), (x0.1, (w64 (x0.2 + 1))))) (ifb ((x0.1.length : Int) == (0 : Int)) (some ((0 : Int), (x0.1, (w64 (x0.2 + 1))))) (ifb (decide ((w64 ((w64 (x0.2 + 1)) - 1)) < (x0.1.length : Int))) (ifb (decide (0 ≤ (w64 ((w64 (x0.2 + 1)) - 1))) && decide ((w64 ((w64 (x0.2 + 1)) - 1)) < (x0.1.length : Int))) (ifb (decide (x1 ≠ 0)) (some (((w64 (x0.1.getD ((w64 ((w64 (x0.2 + 1)) - 1)).toNat) (0 : Int))).tmod x1), (x0.1, (w64 (x0.2 + 1))))) (none)) (none)) (ifb (decide ((x0.1.length : Int) ≠ 0)) (ifb (decide (0 ≤ ((w64 ((w64 (x0.2 + 1)) - 1)).tmod (x0.1.length : Int))) && decide (((w64 ((w64 (x0.2 + 1)) - 1)).tmod (x0.1.length : Int)) < (x0.1.length : Int))) (ifb (decide ((x0.1.length : Int) ≠ 0)) (ifb (decide (0 ≤ ((w64 ((w64 ((w64 ((w64 (x0.2 + 1)) - 1)) * (7 : Int))) + (3 : Int))).tmod (x0.1.length : Int))) && decide (((w64 ((w64 ((w64 ((w64 (x0.2 + 1)) - 1)) * (7 : Int))) + (3 : Int))).tmod (x0.1.length : Int)) < (x0.1.length : Int))) (ifb (decide ((x0.1.length : Int) ≠ 0)) (spec_l1Rd__pick.J8 k (x0.1, (w64 (x0.2 + 1))) x1 (w64 ((w64 ((w64 ((w64 ((w64 (x0.1.getD (((w64 ((w64 (x0.2 + 1)) - 1)).tmod (x0.1.length : Int)).toNat) (0 : Int))) * (131 : Int))) + (w64 ((w64 (x0.1.getD (((w64 ((w64 ((w64 ((w64 (x0.2 + 1)) - 1)) * (7 : Int))) + (3 : Int))).tmod (x0.1.length : Int)).toNat) (0 : Int))) * (1117 : Int))))) + (w64 ((w64 ((w64 (x0.2 + 1)) - 1)) * (29 : Int))))) + (w64 ((w64 ((w64 ((w64 (x0.2 + 1)) - 1)).tdiv (x0.1.length : Int))) * (53 : Int)))))) (none)) (none)) (none)) (none)) (none)))) := by kernel_rfl
theorem spec_l1Rd__pick.J8_eq (k : Nat) (x0 : List Int × Int) (x1 : Int) (x6 : Int) : spec_l1Rd__pick.J8 (k + 1) x0 x1 x6 = ifb (decide ((64 : Int) ≠ 0)) (ifb (decide (x1 ≠ 0)) (some (((w64 ((BitVec.ofInt 64 x6 ^^^ BitVec.ofInt 64 (w64 (x6.tdiv (64 : Int)))).toNat)).tmod x1), x0)) (none)) (none) := by kernel_rfl
theorem spec_l1Rd__pick.ok (k : Nat) : CsOk Tryd.prog Jp (spec_l1Rd__pick.C k) := .nil
theorem spec_l1Rd__pick.can : Can Tryd.prog 58 := can_of (fn := Tryd.f58) (by kernel_rfl) (by kernel_rfl) (by kernel_rfl)
theorem spec_l1Rd__pick.snd (k : Nat) : Snd Tryd.prog Jp 58 ⟨spec_l1Rd__pick.ps, spec_l1Rd__pick.rs, spec_l1Rd__pick.F k⟩ := snd_of E_ok spec_l1Rd__pick.ok mixed (fn := Tryd.f58) (by kernel_rfl) (by kernel_rfl) (by kernel_rfl) k
noncomputable def spec_l13Affix.C (k : Nat) : CEs := [(58, ⟨spec_l1Rd__pick.ps, spec_l1Rd__pick.rs, spec_l1Rd__pick.F k⟩)]
abbrev spec_l13Affix.ps : List Par := [⟨t80, .bx .ro⟩]
abbrev spec_l13Affix.rs : List Res := [⟨t45, .ro, false⟩]
def spec_l13Affix.H : Heads := [(2, [(0, .ro), (2, .ro), (3, (.own .ro))])]
noncomputable def spec_l13Affix.F : Nat → ProdT (spec_l13Affix.ps.map (·.τ)) → Option (ProdT (outs spec_l13Affix.ps spec_l13Affix.rs)) := evFn E spec_l13Affix.C spec_l13Affix.H Tryd.f79 spec_l13Affix.ps spec_l13Affix.rs
noncomputable def spec_l13Affix.J2 (k : Nat) (x0 : List Int × Int) (x2 : Aff) (x3 : List Aff) : Option ((Aff) × (List Int × Int)) := atJ E spec_l13Affix.C spec_l13Affix.H Tryd.f79 spec_l13Affix.ps spec_l13Affix.rs [true, true] 0 [] k (sh 20 [(0, .box t80 x0 .ro none), (2, .box t45 x2 .ro none), (3, .d t24 x3 (.own .ro))])
noncomputable def spec_l13Affix.f (k : Nat) (x0 : List Int × Int) : Option ((Aff) × (List Int × Int)) := spec_l13Affix.F k x0
theorem spec_l13Affix.f_eq (k : Nat) (x0 : List Int × Int) : spec_l13Affix.f k x0 = spec_l13Affix.J2 k x0 zA [((⟨#[83]⟩ : ByteArray), false, bz, (⟨#[115]⟩ : ByteArray), bz), ((⟨#[83]⟩ : ByteArray), false, (⟨#[121]⟩ : ByteArray), (⟨#[105, 101, 115]⟩ : ByteArray), (⟨#[121]⟩ : ByteArray)), ((⟨#[71]⟩ : ByteArray), false, bz, (⟨#[105, 110, 103]⟩ : ByteArray), bz), ((⟨#[71]⟩ : ByteArray), false, (⟨#[101]⟩ : ByteArray), (⟨#[105, 110, 103]⟩ : ByteArray), (⟨#[101]⟩ : ByteArray)), ((⟨#[85]⟩ : ByteArray), true, bz, (⟨#[117, 110]⟩ : ByteArray), bz), ((⟨#[82]⟩ : ByteArray), true, (⟨#[97]⟩ : ByteArray), (⟨#[98]⟩ : ByteArray), (⟨#[97]⟩ : ByteArray)), ((⟨#[84]⟩ : ByteArray), false, bz, (⟨#[116]⟩ : ByteArray), (⟨#[97, 99]⟩ : ByteArray)), ((⟨#[67]⟩ : ByteArray), false, bz, (⟨#[97, 98, 99]⟩ : ByteArray), bz)] := by kernel_rfl
theorem spec_l13Affix.J2_eq (k : Nat) (x0 : List Int × Int) (x2 : Aff) (x3 : List Aff) : spec_l13Affix.J2 (k + 1) x0 x2 x3 = (spec_l1Rd__pick.f k x0 (x3.length : Int)).bind fun (r0 : Int × (List Int × Int)) => ifb (decide (0 ≤ r0.1) && decide (r0.1 < (x3.length : Int))) (some ((x3.getD r0.1.toNat zA), r0.2)) (none) := by kernel_rfl
theorem spec_l13Affix.ok (k : Nat) : CsOk Tryd.prog Jp (spec_l13Affix.C k) := .cons (spec_l1Rd__pick.snd k) spec_l1Rd__pick.can <| .nil
theorem spec_l13Affix.can : Can Tryd.prog 79 := can_of (fn := Tryd.f79) (by kernel_rfl) (by kernel_rfl) (by kernel_rfl)
theorem spec_l13Affix.snd (k : Nat) : Snd Tryd.prog Jp 79 ⟨spec_l13Affix.ps, spec_l13Affix.rs, spec_l13Affix.F k⟩ := snd_of E_ok spec_l13Affix.ok mixed (fn := Tryd.f79) (by kernel_rfl) (by kernel_rfl) (by kernel_rfl) k
noncomputable def spec_l13Affixes.C (k : Nat) : CEs := [(58, ⟨spec_l1Rd__pick.ps, spec_l1Rd__pick.rs, spec_l1Rd__pick.F k⟩), (79, ⟨spec_l13Affix.ps, spec_l13Affix.rs, spec_l13Affix.F k⟩)]
abbrev spec_l13Affixes.ps : List Par := [⟨t80, .bx .ro⟩]
abbrev spec_l13Affixes.rs : List Res := [⟨t24, (.own .ro), false⟩]
def spec_l13Affixes.H : Heads := [(3, [(0, .ro), (3, (.own .ro)), (4, .ro)]), (8, [(0, .ro), (3, (.own .ro)), (4, .ro), (5, .ro), (6, .ro), (7, .ro)]), (9, [(0, .ro), (3, (.own .ro)), (4, .ro), (5, .ro), (6, .ro), (7, .ro)])]
noncomputable def spec_l13Affixes.F : Nat → ProdT (spec_l13Affixes.ps.map (·.τ)) → Option (ProdT (outs spec_l13Affixes.ps spec_l13Affixes.rs)) := evFn E spec_l13Affixes.C spec_l13Affixes.H Tryd.f88 spec_l13Affixes.ps spec_l13Affixes.rs
noncomputable def spec_l13Affixes.L3 (k k1 : Nat) (x0 : List Int × Int) (x3 : List Aff) (x4 : Int) : Option (List Aff × (List Int × Int)) := atL E spec_l13Affixes.C spec_l13Affixes.H Tryd.f88 spec_l13Affixes.ps spec_l13Affixes.rs [true, true, false, true, true] k [] k1 (sh 39 [(0, .box t80 x0 .ro none), (3, .d t24 x3 (.own .ro)), (4, .d (.int .i64) x4 .ro)])
noncomputable def spec_l13Affixes.L8 (k k1 k2 : Nat) (x0 : List Int × Int) (x3 : List Aff) (x4 : Int) (x5 : Aff) (x6 : Bool) (x7 : Int) : Option (List Aff × (List Int × Int)) := atL E spec_l13Affixes.C spec_l13Affixes.H Tryd.f88 spec_l13Affixes.ps spec_l13Affixes.rs [true, true, false, true, true, true, true, false, true, true, true, false, true, true] k [k1] k2 (sh 39 [(0, .box t80 x0 .ro none), (3, .d t24 x3 (.own .ro)), (4, .d (.int .i64) x4 .ro), (5, .box t45 x5 .ro none), (6, .d .bool x6 .ro), (7, .d (.int .i64) x7 .ro)])
noncomputable def spec_l13Affixes.J9 (k k1 k2 k3 : Nat) (x0 : List Int × Int) (x3 : List Aff) (x4 : Int) (x5 : Aff) (x6 : Bool) (x7 : Int) : Option (List Aff × (List Int × Int)) := atJ E spec_l13Affixes.C spec_l13Affixes.H Tryd.f88 spec_l13Affixes.ps spec_l13Affixes.rs [true, true, false, true, true, true, true, false, true, true, true, false, true, true, true, true, true] k [k1, k2] k3 (sh 39 [(0, .box t80 x0 .ro none), (3, .d t24 x3 (.own .ro)), (4, .d (.int .i64) x4 .ro), (5, .box t45 x5 .ro none), (6, .d .bool x6 .ro), (7, .d (.int .i64) x7 .ro)])
noncomputable def spec_l13Affixes.f (k : Nat) (x0 : List Int × Int) : Option (List Aff × (List Int × Int)) := spec_l13Affixes.F k x0
theorem spec_l13Affixes.f_eq (k : Nat) (x0 : List Int × Int) : spec_l13Affixes.f k x0 = (spec_l1Rd__pick.f k x0 (5 : Int)).bind fun (r0 : Int × (List Int × Int)) => spec_l13Affixes.L3 k k r0.2 ([] : List Aff) r0.1 := by kernel_rfl
theorem spec_l13Affixes.L3_eq (k k1 : Nat) (x0 : List Int × Int) (x3 : List Aff) (x4 : Int) : spec_l13Affixes.L3 k (k1 + 1) x0 x3 x4 = ifb (decide (x4 > 0)) ((spec_l13Affix.f k1 x0).bind fun (r1 : (Aff) × (List Int × Int)) => spec_l13Affixes.L8 k k1 k1 r1.2 x3 x4 r1.1 false (0 : Int)) (some (x3, x0)) := by kernel_rfl
theorem spec_l13Affixes.L8_eq (k k1 k2 : Nat) (x0 : List Int × Int) (x3 : List Aff) (x4 : Int) (x5 : Aff) (x6 : Bool) (x7 : Int) : spec_l13Affixes.L8 k k1 (k2 + 1) x0 x3 x4 x5 x6 x7 = ifb (decide (x7 < (x3.length : Int))) (ifb x6 (spec_l13Affixes.J9 k k1 k2 k2 x0 x3 x4 x5 true x7) (ifb (decide (0 ≤ x7) && decide (x7 < (x3.length : Int))) (spec_l13Affixes.J9 k k1 k2 k2 x0 x3 x4 x5 ((((x3.getD x7.toNat zA).1).toList == x5.1.toList) && ((((x3.getD x7.toNat zA).2).1 == x5.2.1) && ((((((x3.getD x7.toNat zA).2).2).1).toList == x5.2.2.1.toList) && (((((((x3.getD x7.toNat zA).2).2).2).1).toList == x5.2.2.2.1.toList) && ((((((x3.getD x7.toNat zA).2).2).2).2).toList == x5.2.2.2.2.toList))))) x7) (none))) (ifb (!x6) (ifb (decide ((x3.length + [x5].length) * 72 ≤ rowMax)) (spec_l13Affixes.L3 k k1 x0 (x3 ++ [x5]) (w64 (x4 - 1))) (none)) (spec_l13Affixes.L3 k k1 x0 x3 (w64 (x4 - 1)))) := by kernel_rfl
theorem spec_l13Affixes.J9_eq (k k1 k2 k3 : Nat) (x0 : List Int × Int) (x3 : List Aff) (x4 : Int) (x5 : Aff) (x6 : Bool) (x7 : Int) : spec_l13Affixes.J9 k k1 k2 (k3 + 1) x0 x3 x4 x5 x6 x7 = spec_l13Affixes.L8 k k1 k2 x0 x3 x4 x5 x6 (w64 (x7 + 1)) := by kernel_rfl
theorem spec_l13Affixes.ok (k : Nat) : CsOk Tryd.prog Jp (spec_l13Affixes.C k) := .cons (spec_l1Rd__pick.snd k) spec_l1Rd__pick.can <| .cons (spec_l13Affix.snd k) spec_l13Affix.can <| .nil
theorem spec_l13Affixes.can : Can Tryd.prog 88 := can_of (fn := Tryd.f88) (by kernel_rfl) (by kernel_rfl) (by kernel_rfl)
theorem spec_l13Affixes.snd (k : Nat) : Snd Tryd.prog Jp 88 ⟨spec_l13Affixes.ps, spec_l13Affixes.rs, spec_l13Affixes.F k⟩ := snd_of E_ok spec_l13Affixes.ok mixed (fn := Tryd.f88) (by kernel_rfl) (by kernel_rfl) (by kernel_rfl) k
noncomputable def spec_l1Rd__of.C (k : Nat) : CEs := [(58, ⟨spec_l1Rd__pick.ps, spec_l1Rd__pick.rs, spec_l1Rd__pick.F k⟩)]
abbrev spec_l1Rd__of.ps : List Par := [⟨t80, .bx .ro⟩, ⟨(.row .str), .rd⟩]
abbrev spec_l1Rd__of.rs : List Res := [⟨.str, .ro, false⟩]
def spec_l1Rd__of.H : Heads := []
noncomputable def spec_l1Rd__of.F : Nat → ProdT (spec_l1Rd__of.ps.map (·.τ)) → Option (ProdT (outs spec_l1Rd__of.ps spec_l1Rd__of.rs)) := evFn E spec_l1Rd__of.C spec_l1Rd__of.H Tryd.f66 spec_l1Rd__of.ps spec_l1Rd__of.rs
noncomputable def spec_l1Rd__of.f (k : Nat) (x0 : List Int × Int) (x1 : List ByteArray) : Option (ByteArray × (List Int × Int)) := spec_l1Rd__of.F k (x0, x1)
theorem spec_l1Rd__of.f_eq (k : Nat) (x0 : List Int × Int) (x1 : List ByteArray) : spec_l1Rd__of.f k x0 x1 = (spec_l1Rd__pick.f k x0 (x1.length : Int)).bind fun (r0 : Int × (List Int × Int)) => ifb (decide (0 ≤ r0.1) && decide (r0.1 < (x1.length : Int))) (some ((x1.getD r0.1.toNat bz), r0.2)) (none) := by kernel_rfl
theorem spec_l1Rd__of.ok (k : Nat) : CsOk Tryd.prog Jp (spec_l1Rd__of.C k) := .cons (spec_l1Rd__pick.snd k) spec_l1Rd__pick.can <| .nil
theorem spec_l1Rd__of.can : Can Tryd.prog 66 := can_of (fn := Tryd.f66) (by kernel_rfl) (by kernel_rfl) (by kernel_rfl)
theorem spec_l1Rd__of.snd (k : Nat) : Snd Tryd.prog Jp 66 ⟨spec_l1Rd__of.ps, spec_l1Rd__of.rs, spec_l1Rd__of.F k⟩ := snd_of E_ok spec_l1Rd__of.ok mixed (fn := Tryd.f66) (by kernel_rfl) (by kernel_rfl) (by kernel_rfl) k
noncomputable def spec_l1Least.C (k : Nat) : CEs := []
abbrev spec_l1Least.ps : List Par := [⟨(.int .i64), .rd⟩, ⟨(.int .i64), .rd⟩]
abbrev spec_l1Least.rs : List Res := [⟨(.int .i64), .ro, false⟩]
def spec_l1Least.H : Heads := []
noncomputable def spec_l1Least.F : Nat → ProdT (spec_l1Least.ps.map (·.τ)) → Option (ProdT (outs spec_l1Least.ps spec_l1Least.rs)) := evFn E spec_l1Least.C spec_l1Least.H Tryd.f99 spec_l1Least.ps spec_l1Least.rs
noncomputable def spec_l1Least.f (k : Nat) (x0 : Int) (x1 : Int) : Option (Int) := spec_l1Least.F k (x0, x1)
theorem spec_l1Least.f_eq (k : Nat) (x0 : Int) (x1 : Int) : spec_l1Least.f k x0 x1 = ifb (decide (x0 < x1)) (some x0) (some x1) := by kernel_rfl
theorem spec_l1Least.ok (k : Nat) : CsOk Tryd.prog Jp (spec_l1Least.C k) := .nil
theorem spec_l1Least.can : Can Tryd.prog 99 := can_of (fn := Tryd.f99) (by kernel_rfl) (by kernel_rfl) (by kernel_rfl)
theorem spec_l1Least.snd (k : Nat) : Snd Tryd.prog Jp 99 ⟨spec_l1Least.ps, spec_l1Least.rs, spec_l1Least.F k⟩ := snd_of E_ok spec_l1Least.ok mixed (fn := Tryd.f99) (by kernel_rfl) (by kernel_rfl) (by kernel_rfl) k
noncomputable def spec_l13Word.C (k : Nat) : CEs := [(58, ⟨spec_l1Rd__pick.ps, spec_l1Rd__pick.rs, spec_l1Rd__pick.F k⟩), (66, ⟨spec_l1Rd__of.ps, spec_l1Rd__of.rs, spec_l1Rd__of.F k⟩), (99, ⟨spec_l1Least.ps, spec_l1Least.rs, spec_l1Least.F k⟩)]
abbrev spec_l13Word.ps : List Par := [⟨t80, .bx .ro⟩]
abbrev spec_l13Word.rs : List Res := [⟨.str, .ro, false⟩]
def spec_l13Word.H : Heads := [(4, [(0, .ro), (3, .ro), (4, .ro)])]
noncomputable def spec_l13Word.F : Nat → ProdT (spec_l13Word.ps.map (·.τ)) → Option (ProdT (outs spec_l13Word.ps spec_l13Word.rs)) := evFn E spec_l13Word.C spec_l13Word.H Tryd.f78 spec_l13Word.ps spec_l13Word.rs
noncomputable def spec_l13Word.L4 (k k1 : Nat) (x0 : List Int × Int) (x3 : ByteArray) (x4 : Int) : Option (ByteArray × (List Int × Int)) := atL E spec_l13Word.C spec_l13Word.H Tryd.f78 spec_l13Word.ps spec_l13Word.rs [true, false, true, false, true, false, true, true] k [] k1 (sh 28 [(0, .box t80 x0 .ro none), (3, .d .str x3 .ro), (4, .d (.int .i64) x4 .ro)])
noncomputable def spec_l13Word.f (k : Nat) (x0 : List Int × Int) : Option (ByteArray × (List Int × Int)) := spec_l13Word.F k x0
theorem spec_l13Word.f_eq (k : Nat) (x0 : List Int × Int) : spec_l13Word.f k x0 = (spec_l1Rd__pick.f k x0 (3 : Int)).bind fun (r0 : Int × (List Int × Int)) => ifb (r0.1 == (0 : Int)) ((spec_l1Rd__pick.f k r0.2 (5 : Int)).bind fun (r1 : Int × (List Int × Int)) => spec_l13Word.L4 k k r1.2 bz (w64 ((1 : Int) + r1.1))) ((spec_l1Rd__of.f k r0.2 [(⟨#[99, 97, 116]⟩ : ByteArray), (⟨#[99, 97, 116, 115]⟩ : ByteArray), (⟨#[97, 99, 116]⟩ : ByteArray), (⟨#[100, 111]⟩ : ByteArray), (⟨#[100, 111, 105, 110, 103]⟩ : ByteArray), (⟨#[103, 111]⟩ : ByteArray), (⟨#[117, 110, 100, 111]⟩ : ByteArray), (⟨#[116, 114, 121]⟩ : ByteArray), (⟨#[116, 114, 105, 101, 115]⟩ : ByteArray), (⟨#[97]⟩ : ByteArray), (⟨#[98, 97, 107, 101]⟩ : ByteArray), (⟨#[98, 97, 107, 105, 110, 103]⟩ : ByteArray), (⟨#[116, 97, 99, 116]⟩ : ByteArray), (⟨#[99, 97, 114, 116]⟩ : ByteArray), (⟨#[97, 98, 99, 97, 98, 99, 97, 98, 99, 97, 98, 99]⟩ : ByteArray)]).bind fun (r2 : ByteArray × (List Int × Int)) => some (r2.1, r2.2)) := by kernel_rfl
theorem spec_l13Word.L4_eq (k k1 : Nat) (x0 : List Int × Int) (x3 : ByteArray) (x4 : Int) : spec_l13Word.L4 k (k1 + 1) x0 x3 x4 = ifb (decide (x4 > 0)) ((spec_l1Rd__of.f k1 x0 [(⟨#[97]⟩ : ByteArray), (⟨#[98]⟩ : ByteArray), (⟨#[99]⟩ : ByteArray), (⟨#[97, 98]⟩ : ByteArray), (⟨#[116]⟩ : ByteArray)]).bind fun (r3 : ByteArray × (List Int × Int)) => ifb (fitB (x3.size + r3.1.size)) (spec_l13Word.L4 k k1 r3.2 (x3 ++ r3.1) (w64 (x4 - 1))) (none)) ((spec_l1Least.f k (x3.size : Int) (12 : Int)).bind fun (r4 : Int) => ifb (decide (0 ≤ (0 : Int)) && (decide ((0 : Int) ≤ r4) && decide (r4 ≤ (x3.size : Int)))) (some ((x3.extract (0 : Int).toNat r4.toNat), x0)) (none)) := by kernel_rfl
theorem spec_l13Word.ok (k : Nat) : CsOk Tryd.prog Jp (spec_l13Word.C k) := .cons (spec_l1Rd__pick.snd k) spec_l1Rd__pick.can <| .cons (spec_l1Rd__of.snd k) spec_l1Rd__of.can <| .cons (spec_l1Least.snd k) spec_l1Least.can <| .nil
theorem spec_l13Word.can : Can Tryd.prog 78 := can_of (fn := Tryd.f78) (by kernel_rfl) (by kernel_rfl) (by kernel_rfl)
theorem spec_l13Word.snd (k : Nat) : Snd Tryd.prog Jp 78 ⟨spec_l13Word.ps, spec_l13Word.rs, spec_l13Word.F k⟩ := snd_of E_ok spec_l13Word.ok mixed (fn := Tryd.f78) (by kernel_rfl) (by kernel_rfl) (by kernel_rfl) k
noncomputable def spec_l1Put.C (k : Nat) : CEs := []
abbrev spec_l1Put.ps : List Par := [⟨(.row .str), .own (.own .ro)⟩, ⟨.str, .rd⟩]
abbrev spec_l1Put.rs : List Res := [⟨(.row .str), (.own .ro), false⟩]
def spec_l1Put.H : Heads := [(2, [(0, (.own .ro)), (1, .ro), (5, .ro)])]
noncomputable def spec_l1Put.F : Nat → ProdT (spec_l1Put.ps.map (·.τ)) → Option (ProdT (outs spec_l1Put.ps spec_l1Put.rs)) := evFn E spec_l1Put.C spec_l1Put.H Tryd.f89 spec_l1Put.ps spec_l1Put.rs
noncomputable def spec_l1Put.L2 (k k1 : Nat) (x0 : List ByteArray) (x1 : ByteArray) (x5 : Int) : Option (List ByteArray) := atL E spec_l1Put.C spec_l1Put.H Tryd.f89 spec_l1Put.ps spec_l1Put.rs [true, true, false, true] k [] k1 (sh 45 [(0, .d (.row .str) x0 (.own .ro)), (1, .d .str x1 .ro), (5, .d (.int .i64) x5 .ro)])
noncomputable def spec_l1Put.f (k : Nat) (x0 : List ByteArray) (x1 : ByteArray) : Option (List ByteArray) := spec_l1Put.F k (x0, x1)
theorem spec_l1Put.f_eq (k : Nat) (x0 : List ByteArray) (x1 : ByteArray) : spec_l1Put.f k x0 x1 = spec_l1Put.L2 k k x0 x1 (0 : Int) := by kernel_rfl
theorem spec_l1Put.L2_eq (k k1 : Nat) (x0 : List ByteArray) (x1 : ByteArray) (x5 : Int) : spec_l1Put.L2 k (k1 + 1) x0 x1 x5 = ifb (decide (x5 < (x0.length : Int))) (ifb (decide (0 ≤ x5) && decide (x5 < (x0.length : Int))) (ifb (Op.bytesLess (x0.getD x5.toNat bz).toList x1.toList) (spec_l1Put.L2 k k1 x0 x1 (w64 (x5 + 1))) (ifb (decide (x5 < (x0.length : Int))) (ifb (decide (0 ≤ x5) && decide (x5 < (x0.length : Int))) (ifb ((x0.getD x5.toNat bz).toList == x1.toList) (some x0) (ifb (decide (0 ≤ (0 : Int)) && (decide ((0 : Int) ≤ x5) && decide (x5 ≤ (x0.length : Int)))) (ifb (decide ((([] : List ByteArray).length + ((x0.take x5.toNat).drop (0 : Int).toNat).length) * 16 ≤ rowMax)) (ifb (decide (((([] : List ByteArray) ++ ((x0.take x5.toNat).drop (0 : Int).toNat)).length + [x1].length) * 16 ≤ rowMax)) (ifb (decide (0 ≤ x5) && (decide (x5 ≤ (x0.length : Int)) && decide ((x0.length : Int) ≤ (x0.length : Int)))) (ifb (decide ((((([] : List ByteArray) ++ ((x0.take x5.toNat).drop (0 : Int).toNat)) ++ [x1]).length + ((x0.take (x0.length : Int).toNat).drop x5.toNat).length) * 16 ≤ rowMax)) (some (((([] : List ByteArray) ++ ((x0.take x5.toNat).drop (0 : Int).toNat)) ++ [x1]) ++ ((x0.take (x0.length : Int).toNat).drop x5.toNat))) (none)) (none)) (none)) (none)) (none))) (none)) (ifb (decide (0 ≤ (0 : Int)) && (decide ((0 : Int) ≤ x5) && decide (x5 ≤ (x0.length : Int)))) (ifb (decide ((([] : List ByteArray).length + ((x0.take x5.toNat).drop (0 : Int).toNat).length) * 16 ≤ rowMax)) (ifb (decide (((([] : List ByteArray) ++ ((x0.take x5.toNat).drop (0 : Int).toNat)).length + [x1].length) * 16 ≤ rowMax)) (ifb (decide (0 ≤ x5) && (decide (x5 ≤ (x0.length : Int)) && decide ((x0.length : Int) ≤ (x0.length : Int)))) (ifb (decide ((((([] : List ByteArray) ++ ((x0.take x5.toNat).drop (0 : Int).toNat)) ++ [x1]).length + ((x0.take (x0.length : Int).toNat).drop x5.toNat).length) * 16 ≤ rowMax)) (some (((([] : List ByteArray) ++ ((x0.take x5.toNat).drop (0 : Int).toNat)) ++ [x1]) ++ ((x0.take (x0.length : Int).toNat).drop x5.toNat))) (none)) (none)) (none)) (none)) (none)))) (none)) (ifb (decide (x5 < (x0.length : Int))) (ifb (decide (0 ≤ x5) && decide (x5 < (x0.length : Int))) (ifb ((x0.getD x5.toNat bz).toList == x1.toList) (some x0) (ifb (decide (0 ≤ (0 : Int)) && (decide ((0 : Int) ≤ x5) && decide (x5 ≤ (x0.length : Int)))) (ifb (decide ((([] : List ByteArray).length + ((x0.take x5.toNat).drop (0 : Int).toNat).length) * 16 ≤ rowMax)) (ifb (decide (((([] : List ByteArray) ++ ((x0.take x5.toNat).drop (0 : Int).toNat)).length + [x1].length) * 16 ≤ rowMax)) (ifb (decide (0 ≤ x5) && (decide (x5 ≤ (x0.length : Int)) && decide ((x0.length : Int) ≤ (x0.length : Int)))) (ifb (decide ((((([] : List ByteArray) ++ ((x0.take x5.toNat).drop (0 : Int).toNat)) ++ [x1]).length + ((x0.take (x0.length : Int).toNat).drop x5.toNat).length) * 16 ≤ rowMax)) (some (((([] : List ByteArray) ++ ((x0.take x5.toNat).drop (0 : Int).toNat)) ++ [x1]) ++ ((x0.take (x0.length : Int).toNat).drop x5.toNat))) (none)) (none)) (none)) (none)) (none))) (none)) (ifb (decide (0 ≤ (0 : Int)) && (decide ((0 : Int) ≤ x5) && decide (x5 ≤ (x0.length : Int)))) (ifb (decide ((([] : List ByteArray).length + ((x0.take x5.toNat).drop (0 : Int).toNat).length) * 16 ≤ rowMax)) (ifb (decide (((([] : List ByteArray) ++ ((x0.take x5.toNat).drop (0 : Int).toNat)).length + [x1].length) * 16 ≤ rowMax)) (ifb (decide (0 ≤ x5) && (decide (x5 ≤ (x0.length : Int)) && decide ((x0.length : Int) ≤ (x0.length : Int)))) (ifb (decide ((((([] : List ByteArray) ++ ((x0.take x5.toNat).drop (0 : Int).toNat)) ++ [x1]).length + ((x0.take (x0.length : Int).toNat).drop x5.toNat).length) * 16 ≤ rowMax)) (some (((([] : List ByteArray) ++ ((x0.take x5.toNat).drop (0 : Int).toNat)) ++ [x1]) ++ ((x0.take (x0.length : Int).toNat).drop x5.toNat))) (none)) (none)) (none)) (none)) (none))) := by kernel_rfl
theorem spec_l1Put.ok (k : Nat) : CsOk Tryd.prog Jp (spec_l1Put.C k) := .nil
theorem spec_l1Put.can : Can Tryd.prog 89 := can_of (fn := Tryd.f89) (by kernel_rfl) (by kernel_rfl) (by kernel_rfl)
theorem spec_l1Put.snd (k : Nat) : Snd Tryd.prog Jp 89 ⟨spec_l1Put.ps, spec_l1Put.rs, spec_l1Put.F k⟩ := snd_of E_ok spec_l1Put.ok mixed (fn := Tryd.f89) (by kernel_rfl) (by kernel_rfl) (by kernel_rfl) k
noncomputable def spec_l13Entry.C (k : Nat) : CEs := [(66, ⟨spec_l1Rd__of.ps, spec_l1Rd__of.rs, spec_l1Rd__of.F k⟩)]
abbrev spec_l13Entry.ps : List Par := [⟨t80, .bx .ro⟩, ⟨.str, .rd⟩]
abbrev spec_l13Entry.rs : List Res := [⟨t42, .ro, false⟩]
def spec_l13Entry.H : Heads := []
noncomputable def spec_l13Entry.F : Nat → ProdT (spec_l13Entry.ps.map (·.τ)) → Option (ProdT (outs spec_l13Entry.ps spec_l13Entry.rs)) := evFn E spec_l13Entry.C spec_l13Entry.H Tryd.f60 spec_l13Entry.ps spec_l13Entry.rs
noncomputable def spec_l13Entry.f (k : Nat) (x0 : List Int × Int) (x1 : ByteArray) : Option (En × (List Int × Int)) := spec_l13Entry.F k (x0, x1)
theorem spec_l13Entry.f_eq (k : Nat) (x0 : List Int × Int) (x1 : ByteArray) : spec_l13Entry.f k x0 x1 = (spec_l1Rd__of.f k x0 [bz, bz, (⟨#[83]⟩ : ByteArray), (⟨#[71, 83]⟩ : ByteArray), (⟨#[85]⟩ : ByteArray), (⟨#[71, 85]⟩ : ByteArray), (⟨#[82]⟩ : ByteArray), (⟨#[84]⟩ : ByteArray), (⟨#[67, 82, 83, 85]⟩ : ByteArray)]).bind fun (r0 : ByteArray × (List Int × Int)) => some ((x1, r0.1), r0.2) := by kernel_rfl
theorem spec_l13Entry.ok (k : Nat) : CsOk Tryd.prog Jp (spec_l13Entry.C k) := .cons (spec_l1Rd__of.snd k) spec_l1Rd__of.can <| .nil
theorem spec_l13Entry.can : Can Tryd.prog 60 := can_of (fn := Tryd.f60) (by kernel_rfl) (by kernel_rfl) (by kernel_rfl)
theorem spec_l13Entry.snd (k : Nat) : Snd Tryd.prog Jp 60 ⟨spec_l13Entry.ps, spec_l13Entry.rs, spec_l13Entry.F k⟩ := snd_of E_ok spec_l13Entry.ok mixed (fn := Tryd.f60) (by kernel_rfl) (by kernel_rfl) (by kernel_rfl) k
noncomputable def spec_l13Book.C (k : Nat) : CEs := [(58, ⟨spec_l1Rd__pick.ps, spec_l1Rd__pick.rs, spec_l1Rd__pick.F k⟩), (88, ⟨spec_l13Affixes.ps, spec_l13Affixes.rs, spec_l13Affixes.F k⟩), (78, ⟨spec_l13Word.ps, spec_l13Word.rs, spec_l13Word.F k⟩), (89, ⟨spec_l1Put.ps, spec_l1Put.rs, spec_l1Put.F k⟩), (60, ⟨spec_l13Entry.ps, spec_l13Entry.rs, spec_l13Entry.F k⟩)]
abbrev spec_l13Book.ps : List Par := [⟨t80, .bx .ro⟩]
abbrev spec_l13Book.rs : List Res := [⟨t62, (.pr (.own .ro) (.own .ro)), false⟩]
def spec_l13Book.H : Heads := [(4, [(0, .ro), (2, (.pr (.own .ro) (.own .ro))), (3, (.pr (.own .ro) (.own .ro))), (4, (.own .ro)), (5, .ro)]), (9, [(0, .ro), (2, (.pr (.own .ro) (.own .ro))), (3, (.pr (.own .ro) (.own .ro))), (4, (.own .ro)), (6, .ro)]), (12, [(0, .ro), (2, (.pr (.own .ro) (.own .ro))), (3, (.pr (.own .ro) (.own .ro))), (4, (.own .ro))]), (13, [(0, .ro), (2, (.pr (.own .ro) (.own .ro))), (3, (.pr (.own .ro) (.own .ro))), (4, (.own .ro)), (7, .ro)])]
noncomputable def spec_l13Book.F : Nat → ProdT (spec_l13Book.ps.map (·.τ)) → Option (ProdT (outs spec_l13Book.ps spec_l13Book.rs)) := evFn E spec_l13Book.C spec_l13Book.H Tryd.f68 spec_l13Book.ps spec_l13Book.rs
noncomputable def spec_l13Book.L4 (k k1 : Nat) (x0 : List Int × Int) (x2 : Book) (x3 : Book) (x4 : List ByteArray) (x5 : Int) : Option (Book × (List Int × Int)) := atL E spec_l13Book.C spec_l13Book.H Tryd.f68 spec_l13Book.ps spec_l13Book.rs [true, true, true, false, true, true] k [] k1 (sh 56 [(0, .box t80 x0 .ro none), (2, .box t62 x2 (.pr (.own .ro) (.own .ro)) none), (3, .box t62 x3 (.pr (.own .ro) (.own .ro)) none), (4, .d (.row .str) x4 (.own .ro)), (5, .d (.int .i64) x5 .ro)])
noncomputable def spec_l13Book.L9 (k k1 : Nat) (x0 : List Int × Int) (x2 : Book) (x3 : Book) (x4 : List ByteArray) (x6 : Int) : Option (Book × (List Int × Int)) := atL E spec_l13Book.C spec_l13Book.H Tryd.f68 spec_l13Book.ps spec_l13Book.rs [true, true, true, true, false, true, false, true, true] k [] k1 (sh 56 [(0, .box t80 x0 .ro none), (2, .box t62 x2 (.pr (.own .ro) (.own .ro)) none), (3, .box t62 x3 (.pr (.own .ro) (.own .ro)) none), (4, .d (.row .str) x4 (.own .ro)), (6, .d (.int .i64) x6 .ro)])
noncomputable def spec_l13Book.J12 (k : Nat) (x0 : List Int × Int) (x2 : Book) (x3 : Book) (x4 : List ByteArray) : Option (Book × (List Int × Int)) := atJ E spec_l13Book.C spec_l13Book.H Tryd.f68 spec_l13Book.ps spec_l13Book.rs [true, true, true, true, true] 0 [] k (sh 56 [(0, .box t80 x0 .ro none), (2, .box t62 x2 (.pr (.own .ro) (.own .ro)) none), (3, .box t62 x3 (.pr (.own .ro) (.own .ro)) none), (4, .d (.row .str) x4 (.own .ro))])
noncomputable def spec_l13Book.L13 (k k1 : Nat) (x0 : List Int × Int) (x2 : Book) (x3 : Book) (x4 : List ByteArray) (x7 : Int) : Option (Book × (List Int × Int)) := atL E spec_l13Book.C spec_l13Book.H Tryd.f68 spec_l13Book.ps spec_l13Book.rs [true, true, true, true, true, false, true, true] 0 [k] k1 (sh 56 [(0, .box t80 x0 .ro none), (2, .box t62 x2 (.pr (.own .ro) (.own .ro)) none), (3, .box t62 x3 (.pr (.own .ro) (.own .ro)) none), (4, .d (.row .str) x4 (.own .ro)), (7, .d (.int .i64) x7 .ro)])
noncomputable def spec_l13Book.f (k : Nat) (x0 : List Int × Int) : Option (Book × (List Int × Int)) := spec_l13Book.F k x0
theorem spec_l13Book.f_eq (k : Nat) (x0 : List Int × Int) : spec_l13Book.f k x0 = (spec_l13Affixes.f k x0).bind fun (r0 : List Aff × (List Int × Int)) => (spec_l1Rd__pick.f k r0.2 (7 : Int)).bind fun (r1 : Int × (List Int × Int)) => spec_l13Book.L4 k k r1.2 (([] : List Aff), ([] : List En)) (r0.1, ([] : List En)) ([] : List ByteArray) r1.1 := by kernel_rfl
theorem spec_l13Book.L4_eq (k k1 : Nat) (x0 : List Int × Int) (x2 : Book) (x3 : Book) (x4 : List ByteArray) (x5 : Int) : spec_l13Book.L4 k (k1 + 1) x0 x2 x3 x4 x5 = ifb (decide (x5 > 0)) ((spec_l13Word.f k1 x0).bind fun (r2 : ByteArray × (List Int × Int)) => (spec_l1Put.f k1 x4 r2.1).bind fun (r3 : List ByteArray) => spec_l13Book.L4 k k1 r2.2 x2 x3 r3 (w64 (x5 - 1))) ((spec_l1Rd__pick.f k x0 (30 : Int)).bind fun (r4 : Int × (List Int × Int)) => ifb (r4.1 == (0 : Int)) (spec_l13Book.L9 k k r4.2 x2 x3 x4 (0 : Int)) (spec_l13Book.J12 k r4.2 x2 x3 x4)) := by kernel_rfl
theorem spec_l13Book.L9_eq (k k1 : Nat) (x0 : List Int × Int) (x2 : Book) (x3 : Book) (x4 : List ByteArray) (x6 : Int) : spec_l13Book.L9 k (k1 + 1) x0 x2 x3 x4 x6 = ifb (decide ((x4.length : Int) < (24 : Int))) (ifb (fitB ((⟨#[119]⟩ : ByteArray).size + (strOf [(IntKind.u8.wrap (w64 ((97 : Int) + x6)))]).size)) ((spec_l1Put.f k1 x4 ((⟨#[119]⟩ : ByteArray) ++ (strOf [(IntKind.u8.wrap (w64 ((97 : Int) + x6)))]))).bind fun (r5 : List ByteArray) => spec_l13Book.L9 k k1 x0 x2 x3 r5 (w64 (x6 + 1))) (none)) (spec_l13Book.J12 k x0 x2 x3 x4) := by kernel_rfl
theorem spec_l13Book.J12_eq (k : Nat) (x0 : List Int × Int) (x2 : Book) (x3 : Book) (x4 : List ByteArray) : spec_l13Book.J12 (k + 1) x0 x2 x3 x4 = spec_l13Book.L13 k k x0 x2 x3 x4 (0 : Int) := by kernel_rfl
theorem spec_l13Book.L13_eq (k k1 : Nat) (x0 : List Int × Int) (x2 : Book) (x3 : Book) (x4 : List ByteArray) (x7 : Int) : spec_l13Book.L13 k (k1 + 1) x0 x2 x3 x4 x7 = ifb (decide (x7 < (x4.length : Int))) (ifb (decide (0 ≤ x7) && decide (x7 < (x4.length : Int))) ((spec_l13Entry.f k1 x0 (x4.getD x7.toNat bz)).bind fun (r6 : En × (List Int × Int)) => ifb (decide ((x3.2.length + [r6.1].length) * 32 ≤ rowMax)) (spec_l13Book.L13 k k1 r6.2 x2 (x3.1, (x3.2 ++ [r6.1])) x4 (w64 (x7 + 1))) (none)) (none)) (some (x3, x0)) := by kernel_rfl
theorem spec_l13Book.ok (k : Nat) : CsOk Tryd.prog Jp (spec_l13Book.C k) := .cons (spec_l1Rd__pick.snd k) spec_l1Rd__pick.can <| .cons (spec_l13Affixes.snd k) spec_l13Affixes.can <| .cons (spec_l13Word.snd k) spec_l13Word.can <| .cons (spec_l1Put.snd k) spec_l1Put.can <| .cons (spec_l13Entry.snd k) spec_l13Entry.can <| .nil
theorem spec_l13Book.can : Can Tryd.prog 68 := can_of (fn := Tryd.f68) (by kernel_rfl) (by kernel_rfl) (by kernel_rfl)
theorem spec_l13Book.snd (k : Nat) : Snd Tryd.prog Jp 68 ⟨spec_l13Book.ps, spec_l13Book.rs, spec_l13Book.F k⟩ := snd_of E_ok spec_l13Book.ok mixed (fn := Tryd.f68) (by kernel_rfl) (by kernel_rfl) (by kernel_rfl) k
noncomputable def spec_l2Flag.C (k : Nat) : CEs := []
abbrev spec_l2Flag.ps : List Par := [⟨.str, .rd⟩]
abbrev spec_l2Flag.rs : List Res := [⟨.bool, .ro, false⟩]
def spec_l2Flag.H : Heads := []
noncomputable def spec_l2Flag.F : Nat → ProdT (spec_l2Flag.ps.map (·.τ)) → Option (ProdT (outs spec_l2Flag.ps spec_l2Flag.rs)) := evFn E spec_l2Flag.C spec_l2Flag.H Tryd.f83 spec_l2Flag.ps spec_l2Flag.rs
noncomputable def spec_l2Flag.f (k : Nat) (x0 : ByteArray) : Option (Bool) := spec_l2Flag.F k x0
theorem spec_l2Flag.f_eq (k : Nat) (x0 : ByteArray) : spec_l2Flag.f k x0 = ifb ((x0.size : Int) == (1 : Int)) (ifb (decide (0 ≤ (0 : Int)) && decide ((0 : Int) < (x0.size : Int))) (ifb (decide ((byteAt x0 (0 : Int)) ≥ (65 : Int))) (ifb (decide (0 ≤ (0 : Int)) && decide ((0 : Int) < (x0.size : Int))) (some (decide ((byteAt x0 (0 : Int)) ≤ (90 : Int)))) (none)) (some false)) (none)) (some false) := by kernel_rfl
theorem spec_l2Flag.ok (k : Nat) : CsOk Tryd.prog Jp (spec_l2Flag.C k) := .nil
theorem spec_l2Flag.can : Can Tryd.prog 83 := can_of (fn := Tryd.f83) (by kernel_rfl) (by kernel_rfl) (by kernel_rfl)
theorem spec_l2Flag.snd (k : Nat) : Snd Tryd.prog Jp 83 ⟨spec_l2Flag.ps, spec_l2Flag.rs, spec_l2Flag.F k⟩ := snd_of E_ok spec_l2Flag.ok mixed (fn := Tryd.f83) (by kernel_rfl) (by kernel_rfl) (by kernel_rfl) k
noncomputable def spec_l1Letters.C (k : Nat) : CEs := []
abbrev spec_l1Letters.ps : List Par := [⟨.str, .rd⟩, ⟨(.int .i64), .rd⟩]
abbrev spec_l1Letters.rs : List Res := [⟨.bool, .ro, false⟩]
def spec_l1Letters.H : Heads := [(2, [(0, .ro), (1, .ro), (5, .ro)])]
noncomputable def spec_l1Letters.F : Nat → ProdT (spec_l1Letters.ps.map (·.τ)) → Option (ProdT (outs spec_l1Letters.ps spec_l1Letters.rs)) := evFn E spec_l1Letters.C spec_l1Letters.H Tryd.f63 spec_l1Letters.ps spec_l1Letters.rs
noncomputable def spec_l1Letters.L2 (k k1 : Nat) (x0 : ByteArray) (x1 : Int) (x5 : Int) : Option (Bool) := atL E spec_l1Letters.C spec_l1Letters.H Tryd.f63 spec_l1Letters.ps spec_l1Letters.rs [true, false, true, true] k [] k1 (sh 26 [(0, .d .str x0 .ro), (1, .d (.int .i64) x1 .ro), (5, .d (.int .i64) x5 .ro)])
noncomputable def spec_l1Letters.f (k : Nat) (x0 : ByteArray) (x1 : Int) : Option (Bool) := spec_l1Letters.F k (x0, x1)
theorem spec_l1Letters.f_eq (k : Nat) (x0 : ByteArray) (x1 : Int) : spec_l1Letters.f k x0 x1 = spec_l1Letters.L2 k k x0 x1 (0 : Int) := by kernel_rfl
theorem spec_l1Letters.L2_eq (k k1 : Nat) (x0 : ByteArray) (x1 : Int) (x5 : Int) : spec_l1Letters.L2 k (k1 + 1) x0 x1 x5 = ifb (decide (x5 < (x0.size : Int))) (ifb (decide (0 ≤ x5) && decide (x5 < (x0.size : Int))) (ifb (decide ((byteAt x0 x5) < (97 : Int))) (some false) (ifb (decide (0 ≤ x5) && decide (x5 < (x0.size : Int))) (ifb (decide ((byteAt x0 x5) > (122 : Int))) (some false) (spec_l1Letters.L2 k k1 x0 x1 (w64 (x5 + 1)))) (none))) (none)) (some (decide ((x0.size : Int) ≤ x1))) := by kernel_rfl
theorem spec_l1Letters.ok (k : Nat) : CsOk Tryd.prog Jp (spec_l1Letters.C k) := .nil
theorem spec_l1Letters.can : Can Tryd.prog 63 := can_of (fn := Tryd.f63) (by kernel_rfl) (by kernel_rfl) (by kernel_rfl)
theorem spec_l1Letters.snd (k : Nat) : Snd Tryd.prog Jp 63 ⟨spec_l1Letters.ps, spec_l1Letters.rs, spec_l1Letters.F k⟩ := snd_of E_ok spec_l1Letters.ok mixed (fn := Tryd.f63) (by kernel_rfl) (by kernel_rfl) (by kernel_rfl) k
noncomputable def spec_l1Word.C (k : Nat) : CEs := [(63, ⟨spec_l1Letters.ps, spec_l1Letters.rs, spec_l1Letters.F k⟩)]
abbrev spec_l1Word.ps : List Par := [⟨.str, .rd⟩]
abbrev spec_l1Word.rs : List Res := [⟨.bool, .ro, false⟩]
def spec_l1Word.H : Heads := []
noncomputable def spec_l1Word.F : Nat → ProdT (spec_l1Word.ps.map (·.τ)) → Option (ProdT (outs spec_l1Word.ps spec_l1Word.rs)) := evFn E spec_l1Word.C spec_l1Word.H Tryd.f37 spec_l1Word.ps spec_l1Word.rs
noncomputable def spec_l1Word.f (k : Nat) (x0 : ByteArray) : Option (Bool) := spec_l1Word.F k x0
theorem spec_l1Word.f_eq (k : Nat) (x0 : ByteArray) : spec_l1Word.f k x0 = ifb (decide ((x0.size : Int) > 0)) ((spec_l1Letters.f k x0 (12 : Int)).bind fun (r0 : Bool) => some r0) (some false) := by kernel_rfl
theorem spec_l1Word.ok (k : Nat) : CsOk Tryd.prog Jp (spec_l1Word.C k) := .cons (spec_l1Letters.snd k) spec_l1Letters.can <| .nil
theorem spec_l1Word.can : Can Tryd.prog 37 := can_of (fn := Tryd.f37) (by kernel_rfl) (by kernel_rfl) (by kernel_rfl)
theorem spec_l1Word.snd (k : Nat) : Snd Tryd.prog Jp 37 ⟨spec_l1Word.ps, spec_l1Word.rs, spec_l1Word.F k⟩ := snd_of E_ok spec_l1Word.ok mixed (fn := Tryd.f37) (by kernel_rfl) (by kernel_rfl) (by kernel_rfl) k
noncomputable def spec_l2Entry.C (k : Nat) : CEs := [(83, ⟨spec_l2Flag.ps, spec_l2Flag.rs, spec_l2Flag.F k⟩), (37, ⟨spec_l1Word.ps, spec_l1Word.rs, spec_l1Word.F k⟩)]
abbrev spec_l2Entry.ps : List Par := [⟨t42, .rd⟩]
abbrev spec_l2Entry.rs : List Res := [⟨.bool, .ro, false⟩]
def spec_l2Entry.H : Heads := [(2, [(1, .ro), (3, .ro)])]
noncomputable def spec_l2Entry.F : Nat → ProdT (spec_l2Entry.ps.map (·.τ)) → Option (ProdT (outs spec_l2Entry.ps spec_l2Entry.rs)) := evFn E spec_l2Entry.C spec_l2Entry.H Tryd.f69 spec_l2Entry.ps spec_l2Entry.rs
noncomputable def spec_l2Entry.L2 (k k1 : Nat) (x1 : ByteArray × ByteArray) (x3 : Int) : Option (Bool) := atL E spec_l2Entry.C spec_l2Entry.H Tryd.f69 spec_l2Entry.ps spec_l2Entry.rs [true, false, true, true] k [] k1 (sh 44 [(1, .box t42 x1 .ro none), (3, .d (.int .i64) x3 .ro)])
noncomputable def spec_l2Entry.f (k : Nat) (x0 : ByteArray × ByteArray) : Option (Bool) := spec_l2Entry.F k x0
theorem spec_l2Entry.f_eq (k : Nat) (x0 : ByteArray × ByteArray) : spec_l2Entry.f k x0 = spec_l2Entry.L2 k k x0 (0 : Int) := by kernel_rfl
theorem spec_l2Entry.L2_eq (k k1 : Nat) (x1 : ByteArray × ByteArray) (x3 : Int) : spec_l2Entry.L2 k (k1 + 1) x1 x3 = ifb (decide (x3 < (x1.2.size : Int))) (ifb (decide (0 ≤ x3) && (decide (x3 ≤ (w64 (x3 + 1))) && decide ((w64 (x3 + 1)) ≤ (x1.2.size : Int)))) ((spec_l2Flag.f k1 (x1.2.extract x3.toNat (w64 (x3 + 1)).toNat)).bind fun (r0 : Bool) => ifb (!r0) (some false) (ifb (decide (x3 > 0)) (ifb (decide (0 ≤ (w64 (x3 - 1))) && decide ((w64 (x3 - 1)) < (x1.2.size : Int))) (ifb (decide (0 ≤ x3) && decide (x3 < (x1.2.size : Int))) (ifb (decide ((byteAt x1.2 (w64 (x3 - 1))) ≥ (byteAt x1.2 x3))) (some false) (spec_l2Entry.L2 k k1 x1 (w64 (x3 + 1)))) (none)) (none)) (spec_l2Entry.L2 k k1 x1 (w64 (x3 + 1))))) (none)) ((spec_l1Word.f k x1.1).bind fun (r1 : Bool) => ifb r1 (some (decide ((x1.2.size : Int) ≤ (4 : Int)))) (some false)) := by kernel_rfl
theorem spec_l2Entry.ok (k : Nat) : CsOk Tryd.prog Jp (spec_l2Entry.C k) := .cons (spec_l2Flag.snd k) spec_l2Flag.can <| .cons (spec_l1Word.snd k) spec_l1Word.can <| .nil
theorem spec_l2Entry.can : Can Tryd.prog 69 := can_of (fn := Tryd.f69) (by kernel_rfl) (by kernel_rfl) (by kernel_rfl)
theorem spec_l2Entry.snd (k : Nat) : Snd Tryd.prog Jp 69 ⟨spec_l2Entry.ps, spec_l2Entry.rs, spec_l2Entry.F k⟩ := snd_of E_ok spec_l2Entry.ok mixed (fn := Tryd.f69) (by kernel_rfl) (by kernel_rfl) (by kernel_rfl) k
noncomputable def spec_l2Begins.C (k : Nat) : CEs := []
abbrev spec_l2Begins.ps : List Par := [⟨.str, .rd⟩, ⟨.str, .rd⟩]
abbrev spec_l2Begins.rs : List Res := [⟨.bool, .ro, false⟩]
def spec_l2Begins.H : Heads := []
noncomputable def spec_l2Begins.F : Nat → ProdT (spec_l2Begins.ps.map (·.τ)) → Option (ProdT (outs spec_l2Begins.ps spec_l2Begins.rs)) := evFn E spec_l2Begins.C spec_l2Begins.H Tryd.f84 spec_l2Begins.ps spec_l2Begins.rs
noncomputable def spec_l2Begins.f (k : Nat) (x0 : ByteArray) (x1 : ByteArray) : Option (Bool) := spec_l2Begins.F k (x0, x1)
theorem spec_l2Begins.f_eq (k : Nat) (x0 : ByteArray) (x1 : ByteArray) : spec_l2Begins.f k x0 x1 = ifb (decide ((x0.size : Int) ≥ (x1.size : Int))) (ifb (decide (0 ≤ (0 : Int)) && (decide ((0 : Int) ≤ (x1.size : Int)) && decide ((x1.size : Int) ≤ (x0.size : Int)))) (some ((x0.extract (0 : Int).toNat (x1.size : Int).toNat).toList == x1.toList)) (none)) (some false) := by kernel_rfl
theorem spec_l2Begins.ok (k : Nat) : CsOk Tryd.prog Jp (spec_l2Begins.C k) := .nil
theorem spec_l2Begins.can : Can Tryd.prog 84 := can_of (fn := Tryd.f84) (by kernel_rfl) (by kernel_rfl) (by kernel_rfl)
theorem spec_l2Begins.snd (k : Nat) : Snd Tryd.prog Jp 84 ⟨spec_l2Begins.ps, spec_l2Begins.rs, spec_l2Begins.F k⟩ := snd_of E_ok spec_l2Begins.ok mixed (fn := Tryd.f84) (by kernel_rfl) (by kernel_rfl) (by kernel_rfl) k
noncomputable def spec_l2Ends.C (k : Nat) : CEs := []
abbrev spec_l2Ends.ps : List Par := [⟨.str, .rd⟩, ⟨.str, .rd⟩]
abbrev spec_l2Ends.rs : List Res := [⟨.bool, .ro, false⟩]
def spec_l2Ends.H : Heads := []
noncomputable def spec_l2Ends.F : Nat → ProdT (spec_l2Ends.ps.map (·.τ)) → Option (ProdT (outs spec_l2Ends.ps spec_l2Ends.rs)) := evFn E spec_l2Ends.C spec_l2Ends.H Tryd.f85 spec_l2Ends.ps spec_l2Ends.rs
noncomputable def spec_l2Ends.f (k : Nat) (x0 : ByteArray) (x1 : ByteArray) : Option (Bool) := spec_l2Ends.F k (x0, x1)
theorem spec_l2Ends.f_eq (k : Nat) (x0 : ByteArray) (x1 : ByteArray) : spec_l2Ends.f k x0 x1 = ifb (decide ((x0.size : Int) ≥ (x1.size : Int))) (ifb (decide (0 ≤ (w64 ((x0.size : Int) - (x1.size : Int)))) && (decide ((w64 ((x0.size : Int) - (x1.size : Int))) ≤ (x0.size : Int)) && decide ((x0.size : Int) ≤ (x0.size : Int)))) (some ((x0.extract (w64 ((x0.size : Int) - (x1.size : Int))).toNat (x0.size : Int).toNat).toList == x1.toList)) (none)) (some false) := by kernel_rfl
theorem spec_l2Ends.ok (k : Nat) : CsOk Tryd.prog Jp (spec_l2Ends.C k) := .nil
theorem spec_l2Ends.can : Can Tryd.prog 85 := can_of (fn := Tryd.f85) (by kernel_rfl) (by kernel_rfl) (by kernel_rfl)
theorem spec_l2Ends.snd (k : Nat) : Snd Tryd.prog Jp 85 ⟨spec_l2Ends.ps, spec_l2Ends.rs, spec_l2Ends.F k⟩ := snd_of E_ok spec_l2Ends.ok mixed (fn := Tryd.f85) (by kernel_rfl) (by kernel_rfl) (by kernel_rfl) k
noncomputable def spec_AffixOk.C (k : Nat) : CEs := [(83, ⟨spec_l2Flag.ps, spec_l2Flag.rs, spec_l2Flag.F k⟩), (63, ⟨spec_l1Letters.ps, spec_l1Letters.rs, spec_l1Letters.F k⟩), (84, ⟨spec_l2Begins.ps, spec_l2Begins.rs, spec_l2Begins.F k⟩), (85, ⟨spec_l2Ends.ps, spec_l2Ends.rs, spec_l2Ends.F k⟩)]
abbrev spec_AffixOk.ps : List Par := [⟨t45, .rd⟩]
abbrev spec_AffixOk.rs : List Res := [⟨.bool, .ro, false⟩]
def spec_AffixOk.H : Heads := []
noncomputable def spec_AffixOk.F : Nat → ProdT (spec_AffixOk.ps.map (·.τ)) → Option (ProdT (outs spec_AffixOk.ps spec_AffixOk.rs)) := evFn E spec_AffixOk.C spec_AffixOk.H Tryd.f65 spec_AffixOk.ps spec_AffixOk.rs
noncomputable def spec_AffixOk.f (k : Nat) (x0 : Aff) : Option (Bool) := spec_AffixOk.F k x0
theorem spec_AffixOk.f_eq (k : Nat) (x0 : Aff) : spec_AffixOk.f k x0 = (spec_l2Flag.f k x0.1).bind fun (r0 : Bool) => ifb (!r0) (some false) ((spec_l1Letters.f k x0.2.2.1 (4 : Int)).bind fun (r1 : Bool) => ifb (!r1) (some false) ((spec_l1Letters.f k x0.2.2.2.1 (4 : Int)).bind fun (r2 : Bool) => ifb (!r2) (some false) ((spec_l1Letters.f k x0.2.2.2.2 (4 : Int)).bind fun (r3 : Bool) => ifb (!r3) (some false) (ifb x0.2.1 ((spec_l2Begins.f k x0.2.2.2.2 x0.2.2.1).bind fun (r4 : Bool) => some r4) ((spec_l2Ends.f k x0.2.2.2.2 x0.2.2.1).bind fun (r5 : Bool) => some r5))))) := by kernel_rfl
theorem spec_AffixOk.ok (k : Nat) : CsOk Tryd.prog Jp (spec_AffixOk.C k) := .cons (spec_l2Flag.snd k) spec_l2Flag.can <| .cons (spec_l1Letters.snd k) spec_l1Letters.can <| .cons (spec_l2Begins.snd k) spec_l2Begins.can <| .cons (spec_l2Ends.snd k) spec_l2Ends.can <| .nil
theorem spec_AffixOk.can : Can Tryd.prog 65 := can_of (fn := Tryd.f65) (by kernel_rfl) (by kernel_rfl) (by kernel_rfl)
theorem spec_AffixOk.snd (k : Nat) : Snd Tryd.prog Jp 65 ⟨spec_AffixOk.ps, spec_AffixOk.rs, spec_AffixOk.F k⟩ := snd_of E_ok spec_AffixOk.ok mixed (fn := Tryd.f65) (by kernel_rfl) (by kernel_rfl) (by kernel_rfl) k
noncomputable def spec_l2Affixes.C (k : Nat) : CEs := [(65, ⟨spec_AffixOk.ps, spec_AffixOk.rs, spec_AffixOk.F k⟩)]
abbrev spec_l2Affixes.ps : List Par := [⟨t24, .rd⟩]
abbrev spec_l2Affixes.rs : List Res := [⟨.bool, .ro, false⟩]
def spec_l2Affixes.H : Heads := [(2, [(0, .ro), (3, .ro)]), (7, [(0, .ro), (3, .ro), (4, .ro)])]
noncomputable def spec_l2Affixes.F : Nat → ProdT (spec_l2Affixes.ps.map (·.τ)) → Option (ProdT (outs spec_l2Affixes.ps spec_l2Affixes.rs)) := evFn E spec_l2Affixes.C spec_l2Affixes.H Tryd.f39 spec_l2Affixes.ps spec_l2Affixes.rs
noncomputable def spec_l2Affixes.L2 (k k1 : Nat) (x0 : List Aff) (x3 : Int) : Option (Bool) := atL E spec_l2Affixes.C spec_l2Affixes.H Tryd.f39 spec_l2Affixes.ps spec_l2Affixes.rs [true, false, true, true] k [] k1 (sh 34 [(0, .d t24 x0 .ro), (3, .d (.int .i64) x3 .ro)])
noncomputable def spec_l2Affixes.L7 (k k1 k2 : Nat) (x0 : List Aff) (x3 : Int) (x4 : Int) : Option (Bool) := atL E spec_l2Affixes.C spec_l2Affixes.H Tryd.f39 spec_l2Affixes.ps spec_l2Affixes.rs [true, false, true, true, true, true, false, true, true, true, true] k [k1] k2 (sh 34 [(0, .d t24 x0 .ro), (3, .d (.int .i64) x3 .ro), (4, .d (.int .i64) x4 .ro)])
noncomputable def spec_l2Affixes.f (k : Nat) (x0 : List Aff) : Option (Bool) := spec_l2Affixes.F k x0
theorem spec_l2Affixes.f_eq (k : Nat) (x0 : List Aff) : spec_l2Affixes.f k x0 = spec_l2Affixes.L2 k k x0 (0 : Int) := by kernel_rfl
theorem spec_l2Affixes.L2_eq (k k1 : Nat) (x0 : List Aff) (x3 : Int) : spec_l2Affixes.L2 k (k1 + 1) x0 x3 = ifb (decide (x3 < (x0.length : Int))) (ifb (decide (0 ≤ x3) && decide (x3 < (x0.length : Int))) ((spec_AffixOk.f k1 (x0.getD x3.toNat zA)).bind fun (r0 : Bool) => ifb (!r0) (some false) (spec_l2Affixes.L7 k k1 k1 x0 x3 (0 : Int))) (none)) (some (decide ((x0.length : Int) ≤ (8 : Int)))) := by kernel_rfl
theorem spec_l2Affixes.L7_eq (k k1 k2 : Nat) (x0 : List Aff) (x3 : Int) (x4 : Int) : spec_l2Affixes.L7 k k1 (k2 + 1) x0 x3 x4 = ifb (decide (x4 < x3)) (ifb (decide (0 ≤ x4) && decide (x4 < (x0.length : Int))) (ifb (decide (0 ≤ x3) && decide (x3 < (x0.length : Int))) (ifb ((((x0.getD x4.toNat zA).1).toList == ((x0.getD x3.toNat zA).1).toList) && ((((x0.getD x4.toNat zA).2).1 == ((x0.getD x3.toNat zA).2).1) && ((((((x0.getD x4.toNat zA).2).2).1).toList == ((((x0.getD x3.toNat zA).2).2).1).toList) && (((((((x0.getD x4.toNat zA).2).2).2).1).toList == (((((x0.getD x3.toNat zA).2).2).2).1).toList) && ((((((x0.getD x4.toNat zA).2).2).2).2).toList == (((((x0.getD x3.toNat zA).2).2).2).2).toList))))) (some false) (spec_l2Affixes.L7 k k1 k2 x0 x3 (w64 (x4 + 1)))) (none)) (none)) (spec_l2Affixes.L2 k k1 x0 (w64 (x3 + 1))) := by kernel_rfl
theorem spec_l2Affixes.ok (k : Nat) : CsOk Tryd.prog Jp (spec_l2Affixes.C k) := .cons (spec_AffixOk.snd k) spec_AffixOk.can <| .nil
theorem spec_l2Affixes.can : Can Tryd.prog 39 := can_of (fn := Tryd.f39) (by kernel_rfl) (by kernel_rfl) (by kernel_rfl)
theorem spec_l2Affixes.snd (k : Nat) : Snd Tryd.prog Jp 39 ⟨spec_l2Affixes.ps, spec_l2Affixes.rs, spec_l2Affixes.F k⟩ := snd_of E_ok spec_l2Affixes.ok mixed (fn := Tryd.f39) (by kernel_rfl) (by kernel_rfl) (by kernel_rfl) k
noncomputable def spec_BookOk.C (k : Nat) : CEs := [(69, ⟨spec_l2Entry.ps, spec_l2Entry.rs, spec_l2Entry.F k⟩), (39, ⟨spec_l2Affixes.ps, spec_l2Affixes.rs, spec_l2Affixes.F k⟩)]
abbrev spec_BookOk.ps : List Par := [⟨t62, .rd⟩]
abbrev spec_BookOk.rs : List Res := [⟨.bool, .ro, false⟩]
def spec_BookOk.H : Heads := [(2, [(1, .ro), (3, .ro)])]
noncomputable def spec_BookOk.F : Nat → ProdT (spec_BookOk.ps.map (·.τ)) → Option (ProdT (outs spec_BookOk.ps spec_BookOk.rs)) := evFn E spec_BookOk.C spec_BookOk.H Tryd.f64 spec_BookOk.ps spec_BookOk.rs
noncomputable def spec_BookOk.L2 (k k1 : Nat) (x1 : Book) (x3 : Int) : Option (Bool) := atL E spec_BookOk.C spec_BookOk.H Tryd.f64 spec_BookOk.ps spec_BookOk.rs [true, false, true, true] k [] k1 (sh 47 [(1, .box t62 x1 .ro none), (3, .d (.int .i64) x3 .ro)])
noncomputable def spec_BookOk.f (k : Nat) (x0 : Book) : Option (Bool) := spec_BookOk.F k x0
theorem spec_BookOk.f_eq (k : Nat) (x0 : Book) : spec_BookOk.f k x0 = spec_BookOk.L2 k k x0 (0 : Int) := by kernel_rfl
theorem spec_BookOk.L2_eq (k k1 : Nat) (x1 : Book) (x3 : Int) : spec_BookOk.L2 k (k1 + 1) x1 x3 = ifb (decide (x3 < (x1.2.length : Int))) (ifb (decide (0 ≤ x3) && decide (x3 < (x1.2.length : Int))) ((spec_l2Entry.f k1 (x1.2.getD x3.toNat zE)).bind fun (r0 : Bool) => ifb (!r0) (some false) (ifb (decide (x3 > 0)) (ifb (decide (0 ≤ (w64 (x3 - 1))) && decide ((w64 (x3 - 1)) < (x1.2.length : Int))) (ifb (decide (0 ≤ x3) && decide (x3 < (x1.2.length : Int))) (ifb (!(Op.bytesLess ((x1.2.getD ((w64 (x3 - 1)).toNat) zE).1).toList ((x1.2.getD x3.toNat zE).1).toList)) (some false) (spec_BookOk.L2 k k1 x1 (w64 (x3 + 1)))) (none)) (none)) (spec_BookOk.L2 k k1 x1 (w64 (x3 + 1))))) (none)) ((spec_l2Affixes.f k x1.1).bind fun (r1 : Bool) => ifb r1 (some (decide ((x1.2.length : Int) ≤ (24 : Int)))) (some false)) := by kernel_rfl
theorem spec_BookOk.ok (k : Nat) : CsOk Tryd.prog Jp (spec_BookOk.C k) := .cons (spec_l2Entry.snd k) spec_l2Entry.can <| .cons (spec_l2Affixes.snd k) spec_l2Affixes.can <| .nil
theorem spec_BookOk.can : Can Tryd.prog 64 := can_of (fn := Tryd.f64) (by kernel_rfl) (by kernel_rfl) (by kernel_rfl)
theorem spec_BookOk.snd (k : Nat) : Snd Tryd.prog Jp 64 ⟨spec_BookOk.ps, spec_BookOk.rs, spec_BookOk.F k⟩ := snd_of E_ok spec_BookOk.ok mixed (fn := Tryd.f64) (by kernel_rfl) (by kernel_rfl) (by kernel_rfl) k
noncomputable def spec_l5At.C (k : Nat) : CEs := []
abbrev spec_l5At.ps : List Par := [⟨t23, .rd⟩, ⟨.str, .rd⟩]
abbrev spec_l5At.rs : List Res := [⟨(.int .i64), .ro, false⟩, ⟨.bool, .ro, false⟩]
def spec_l5At.H : Heads := [(2, [(0, .ro), (1, .ro), (6, .ro)])]
noncomputable def spec_l5At.F : Nat → ProdT (spec_l5At.ps.map (·.τ)) → Option (ProdT (outs spec_l5At.ps spec_l5At.rs)) := evFn E spec_l5At.C spec_l5At.H Tryd.f86 spec_l5At.ps spec_l5At.rs
noncomputable def spec_l5At.L2 (k k1 : Nat) (x0 : List En) (x1 : ByteArray) (x6 : Int) : Option (Int × Bool) := atL E spec_l5At.C spec_l5At.H Tryd.f86 spec_l5At.ps spec_l5At.rs [true, true, false, true] k [] k1 (sh 36 [(0, .d t23 x0 .ro), (1, .d .str x1 .ro), (6, .d (.int .i64) x6 .ro)])
noncomputable def spec_l5At.f (k : Nat) (x0 : List En) (x1 : ByteArray) : Option (Int × Bool) := spec_l5At.F k (x0, x1)
theorem spec_l5At.f_eq (k : Nat) (x0 : List En) (x1 : ByteArray) : spec_l5At.f k x0 x1 = spec_l5At.L2 k k x0 x1 (0 : Int) := by kernel_rfl
theorem spec_l5At.L2_eq (k k1 : Nat) (x0 : List En) (x1 : ByteArray) (x6 : Int) : spec_l5At.L2 k (k1 + 1) x0 x1 x6 = ifb (decide (x6 < (x0.length : Int))) (ifb (decide (0 ≤ x6) && decide (x6 < (x0.length : Int))) (ifb (Op.bytesLess ((x0.getD x6.toNat zE).1).toList x1.toList) (spec_l5At.L2 k k1 x0 x1 (w64 (x6 + 1))) (ifb (decide (x6 < (x0.length : Int))) (ifb (decide (0 ≤ x6) && decide (x6 < (x0.length : Int))) (some (x6, (((x0.getD x6.toNat zE).1).toList == x1.toList))) (none)) (some (x6, false)))) (none)) (ifb (decide (x6 < (x0.length : Int))) (ifb (decide (0 ≤ x6) && decide (x6 < (x0.length : Int))) (some (x6, (((x0.getD x6.toNat zE).1).toList == x1.toList))) (none)) (some (x6, false))) := by kernel_rfl
theorem spec_l5At.ok (k : Nat) : CsOk Tryd.prog Jp (spec_l5At.C k) := .nil
theorem spec_l5At.can : Can Tryd.prog 86 := can_of (fn := Tryd.f86) (by kernel_rfl) (by kernel_rfl) (by kernel_rfl)
theorem spec_l5At.snd (k : Nat) : Snd Tryd.prog Jp 86 ⟨spec_l5At.ps, spec_l5At.rs, spec_l5At.F k⟩ := snd_of E_ok spec_l5At.ok mixed (fn := Tryd.f86) (by kernel_rfl) (by kernel_rfl) (by kernel_rfl) k
noncomputable def spec_l5Affixes.C (k : Nat) : CEs := []
abbrev spec_l5Affixes.ps : List Par := [⟨t24, .rd⟩, ⟨t24, .rd⟩]
abbrev spec_l5Affixes.rs : List Res := [⟨.bool, .ro, false⟩]
def spec_l5Affixes.H : Heads := [(4, [(0, .ro), (1, .ro), (5, .ro)])]
noncomputable def spec_l5Affixes.F : Nat → ProdT (spec_l5Affixes.ps.map (·.τ)) → Option (ProdT (outs spec_l5Affixes.ps spec_l5Affixes.rs)) := evFn E spec_l5Affixes.C spec_l5Affixes.H Tryd.f87 spec_l5Affixes.ps spec_l5Affixes.rs
noncomputable def spec_l5Affixes.L4 (k k1 : Nat) (x0 : List Aff) (x1 : List Aff) (x5 : Int) : Option (Bool) := atL E spec_l5Affixes.C spec_l5Affixes.H Tryd.f87 spec_l5Affixes.ps spec_l5Affixes.rs [true, true, false, true, true] k [] k1 (sh 26 [(0, .d t24 x0 .ro), (1, .d t24 x1 .ro), (5, .d (.int .i64) x5 .ro)])
noncomputable def spec_l5Affixes.f (k : Nat) (x0 : List Aff) (x1 : List Aff) : Option (Bool) := spec_l5Affixes.F k (x0, x1)
theorem spec_l5Affixes.f_eq (k : Nat) (x0 : List Aff) (x1 : List Aff) : spec_l5Affixes.f k x0 x1 = ifb ((x0.length : Int) != (x1.length : Int)) (some false) (spec_l5Affixes.L4 k k x0 x1 (0 : Int)) := by kernel_rfl
theorem spec_l5Affixes.L4_eq (k k1 : Nat) (x0 : List Aff) (x1 : List Aff) (x5 : Int) : spec_l5Affixes.L4 k (k1 + 1) x0 x1 x5 = ifb (decide (x5 < (x0.length : Int))) (ifb (decide (0 ≤ x5) && decide (x5 < (x0.length : Int))) (ifb (decide (0 ≤ x5) && decide (x5 < (x1.length : Int))) (ifb (!((((x0.getD x5.toNat zA).1).toList == ((x1.getD x5.toNat zA).1).toList) && ((((x0.getD x5.toNat zA).2).1 == ((x1.getD x5.toNat zA).2).1) && ((((((x0.getD x5.toNat zA).2).2).1).toList == ((((x1.getD x5.toNat zA).2).2).1).toList) && (((((((x0.getD x5.toNat zA).2).2).2).1).toList == (((((x1.getD x5.toNat zA).2).2).2).1).toList) && ((((((x0.getD x5.toNat zA).2).2).2).2).toList == (((((x1.getD x5.toNat zA).2).2).2).2).toList)))))) (some false) (spec_l5Affixes.L4 k k1 x0 x1 (w64 (x5 + 1)))) (none)) (none)) (some true) := by kernel_rfl
theorem spec_l5Affixes.ok (k : Nat) : CsOk Tryd.prog Jp (spec_l5Affixes.C k) := .nil
theorem spec_l5Affixes.can : Can Tryd.prog 87 := can_of (fn := Tryd.f87) (by kernel_rfl) (by kernel_rfl) (by kernel_rfl)
theorem spec_l5Affixes.snd (k : Nat) : Snd Tryd.prog Jp 87 ⟨spec_l5Affixes.ps, spec_l5Affixes.rs, spec_l5Affixes.F k⟩ := snd_of E_ok spec_l5Affixes.ok mixed (fn := Tryd.f87) (by kernel_rfl) (by kernel_rfl) (by kernel_rfl) k
noncomputable def spec_DeltaOf.C (k : Nat) : CEs := [(64, ⟨spec_BookOk.ps, spec_BookOk.rs, spec_BookOk.F k⟩), (86, ⟨spec_l5At.ps, spec_l5At.rs, spec_l5At.F k⟩), (87, ⟨spec_l5Affixes.ps, spec_l5Affixes.rs, spec_l5Affixes.F k⟩)]
abbrev spec_DeltaOf.ps : List Par := [⟨t62, .rd⟩, ⟨t62, .rd⟩]
abbrev spec_DeltaOf.rs : List Res := [⟨t25, (.pr (.own .ro) (.pr (.own .ro) (.pr .ro (.own .ro)))), false⟩]
def spec_DeltaOf.H : Heads := [(5, [(2, .ro), (3, .ro), (4, (.pr (.own .ro) (.pr (.own .ro) (.pr .ro (.own .ro))))), (5, (.pr (.own .ro) (.pr (.own .ro) (.pr .ro (.own .ro))))), (6, .ro)]), (11, [(2, .ro), (3, .ro), (4, (.pr (.own .ro) (.pr (.own .ro) (.pr .ro (.own .ro))))), (5, (.pr (.own .ro) (.pr (.own .ro) (.pr .ro (.own .ro))))), (9, .ro)])]
noncomputable def spec_DeltaOf.F : Nat → ProdT (spec_DeltaOf.ps.map (·.τ)) → Option (ProdT (outs spec_DeltaOf.ps spec_DeltaOf.rs)) := evFn E spec_DeltaOf.C spec_DeltaOf.H Tryd.f67 spec_DeltaOf.ps spec_DeltaOf.rs
noncomputable def spec_DeltaOf.L5 (k k1 : Nat) (x2 : Book) (x3 : Book) (x4 : Delta) (x5 : Delta) (x6 : Int) : Option Delta := atL E spec_DeltaOf.C spec_DeltaOf.H Tryd.f67 spec_DeltaOf.ps spec_DeltaOf.rs [true, true, true, false, true, true] k [] k1 (sh 111 [(2, .box t62 x2 .ro none), (3, .box t62 x3 .ro none), (4, .box t25 x4 (.pr (.own .ro) (.pr (.own .ro) (.pr .ro (.own .ro)))) none), (5, .box t25 x5 (.pr (.own .ro) (.pr (.own .ro) (.pr .ro (.own .ro)))) none), (6, .d (.int .i64) x6 .ro)])
noncomputable def spec_DeltaOf.L11 (k k1 : Nat) (x2 : Book) (x3 : Book) (x4 : Delta) (x5 : Delta) (x9 : Int) : Option Delta := atL E spec_DeltaOf.C spec_DeltaOf.H Tryd.f67 spec_DeltaOf.ps spec_DeltaOf.rs [true, true, true, true, false, true, true] k [] k1 (sh 111 [(2, .box t62 x2 .ro none), (3, .box t62 x3 .ro none), (4, .box t25 x4 (.pr (.own .ro) (.pr (.own .ro) (.pr .ro (.own .ro)))) none), (5, .box t25 x5 (.pr (.own .ro) (.pr (.own .ro) (.pr .ro (.own .ro)))) none), (9, .d (.int .i64) x9 .ro)])
noncomputable def spec_DeltaOf.f (k : Nat) (x0 : Book) (x1 : Book) : Option Delta := spec_DeltaOf.F k (x0, x1)
theorem spec_DeltaOf.f_eq (k : Nat) (x0 : Book) (x1 : Book) : spec_DeltaOf.f k x0 x1 = (spec_BookOk.f k x0).bind fun (r0 : Bool) => ifb (!r0) (some (([] : List ByteArray), ([] : List En), false, ([] : List Aff))) ((spec_BookOk.f k x1).bind fun (r1 : Bool) => ifb (!r1) (some (([] : List ByteArray), ([] : List En), false, ([] : List Aff))) (spec_DeltaOf.L5 k k x0 x1 (([] : List ByteArray), ([] : List En), false, ([] : List Aff)) (([] : List ByteArray), ([] : List En), false, ([] : List Aff)) (0 : Int))) := by kernel_rfl
theorem spec_DeltaOf.L5_eq (k k1 : Nat) (x2 : Book) (x3 : Book) (x4 : Delta) (x5 : Delta) (x6 : Int) : spec_DeltaOf.L5 k (k1 + 1) x2 x3 x4 x5 x6 = ifb (decide (x6 < (x2.2.length : Int))) (ifb (decide (0 ≤ x6) && decide (x6 < (x2.2.length : Int))) ((spec_l5At.f k1 x3.2 ((x2.2.getD x6.toNat zE).1)).bind fun (r2 : Int × Bool) => ifb (!r2.2) (ifb (decide (0 ≤ x6) && decide (x6 < (x2.2.length : Int))) (ifb (decide ((x5.1.length + [(x2.2.getD x6.toNat zE).1].length) * 16 ≤ rowMax)) (spec_DeltaOf.L5 k k1 x2 x3 x4 ((x5.1 ++ [(x2.2.getD x6.toNat zE).1]), x5.2) (w64 (x6 + 1))) (none)) (none)) (spec_DeltaOf.L5 k k1 x2 x3 x4 x5 (w64 (x6 + 1)))) (none)) (spec_DeltaOf.L11 k k x2 x3 x4 x5 (0 : Int)) := by kernel_rfl
theorem spec_DeltaOf.L11_eq (k k1 : Nat) (x2 : Book) (x3 : Book) (x4 : Delta) (x5 : Delta) (x9 : Int) : spec_DeltaOf.L11 k (k1 + 1) x2 x3 x4 x5 x9 = ifb (decide (x9 < (x3.2.length : Int))) (ifb (decide (0 ≤ x9) && decide (x9 < (x3.2.length : Int))) ((spec_l5At.f k1 x2.2 ((x3.2.getD x9.toNat zE).1)).bind fun (r3 : Int × Bool) => ifb (!r3.2) (ifb (decide (0 ≤ x9) && decide (x9 < (x3.2.length : Int))) (ifb (decide ((x5.2.1.length + [(x3.2.getD x9.toNat zE)].length) * 32 ≤ rowMax)) (spec_DeltaOf.L11 k k1 x2 x3 x4 (x5.1, (x5.2.1 ++ [(x3.2.getD x9.toNat zE)]), x5.2.2) (w64 (x9 + 1))) (none)) (none)) (ifb (decide (0 ≤ r3.1) && decide (r3.1 < (x2.2.length : Int))) (ifb (decide (0 ≤ x9) && decide (x9 < (x3.2.length : Int))) (ifb (!((((x2.2.getD r3.1.toNat zE).1).toList == ((x3.2.getD x9.toNat zE).1).toList) && (((x2.2.getD r3.1.toNat zE).2).toList == ((x3.2.getD x9.toNat zE).2).toList))) (ifb (decide (0 ≤ x9) && decide (x9 < (x3.2.length : Int))) (ifb (decide ((x5.2.1.length + [(x3.2.getD x9.toNat zE)].length) * 32 ≤ rowMax)) (spec_DeltaOf.L11 k k1 x2 x3 x4 (x5.1, (x5.2.1 ++ [(x3.2.getD x9.toNat zE)]), x5.2.2) (w64 (x9 + 1))) (none)) (none)) (spec_DeltaOf.L11 k k1 x2 x3 x4 x5 (w64 (x9 + 1)))) (none)) (none))) (none)) ((spec_l5Affixes.f k x2.1 x3.1).bind fun (r4 : Bool) => ifb (!r4) (ifb (decide ((([] : List Aff).length + x3.1.length) * 72 ≤ rowMax)) (some (x5.1, x5.2.1, true, (([] : List Aff) ++ x3.1))) (none)) (some x5)) := by kernel_rfl
theorem spec_DeltaOf.ok (k : Nat) : CsOk Tryd.prog Jp (spec_DeltaOf.C k) := .cons (spec_BookOk.snd k) spec_BookOk.can <| .cons (spec_l5At.snd k) spec_l5At.can <| .cons (spec_l5Affixes.snd k) spec_l5Affixes.can <| .nil
theorem spec_DeltaOf.can : Can Tryd.prog 67 := can_of (fn := Tryd.f67) (by kernel_rfl) (by kernel_rfl) (by kernel_rfl)
theorem spec_DeltaOf.snd (k : Nat) : Snd Tryd.prog Jp 67 ⟨spec_DeltaOf.ps, spec_DeltaOf.rs, spec_DeltaOf.F k⟩ := snd_of E_ok spec_DeltaOf.ok mixed (fn := Tryd.f67) (by kernel_rfl) (by kernel_rfl) (by kernel_rfl) k
noncomputable def spec_l13Delta.C (k : Nat) : CEs := [(58, ⟨spec_l1Rd__pick.ps, spec_l1Rd__pick.rs, spec_l1Rd__pick.F k⟩), (68, ⟨spec_l13Book.ps, spec_l13Book.rs, spec_l13Book.F k⟩), (67, ⟨spec_DeltaOf.ps, spec_DeltaOf.rs, spec_DeltaOf.F k⟩)]
abbrev spec_l13Delta.ps : List Par := [⟨t80, .bx .ro⟩]
abbrev spec_l13Delta.rs : List Res := [⟨t25, (.pr (.own .ro) (.pr (.own .ro) (.pr .ro (.own .ro)))), false⟩]
def spec_l13Delta.H : Heads := []
noncomputable def spec_l13Delta.F : Nat → ProdT (spec_l13Delta.ps.map (·.τ)) → Option (ProdT (outs spec_l13Delta.ps spec_l13Delta.rs)) := evFn E spec_l13Delta.C spec_l13Delta.H Tryd.f43 spec_l13Delta.ps spec_l13Delta.rs
noncomputable def spec_l13Delta.f (k : Nat) (x0 : List Int × Int) : Option (Delta × (List Int × Int)) := spec_l13Delta.F k x0
theorem spec_l13Delta.f_eq (k : Nat) (x0 : List Int × Int) : spec_l13Delta.f k x0 = (spec_l13Book.f k x0).bind fun (r0 : Book × (List Int × Int)) => (spec_l13Book.f k r0.2).bind fun (r1 : Book × (List Int × Int)) => (spec_DeltaOf.f k r0.1 r1.1).bind fun (r2 : Delta) => (spec_l1Rd__pick.f k r1.2 (3 : Int)).bind fun (r3 : Int × (List Int × Int)) => ifb (r3.1 == (0 : Int)) (some ((([] : List ByteArray), r2.2), r3.2)) (some (r2, r3.2)) := by kernel_rfl
theorem spec_l13Delta.ok (k : Nat) : CsOk Tryd.prog Jp (spec_l13Delta.C k) := .cons (spec_l1Rd__pick.snd k) spec_l1Rd__pick.can <| .cons (spec_l13Book.snd k) spec_l13Book.can <| .cons (spec_DeltaOf.snd k) spec_DeltaOf.can <| .nil
theorem spec_l13Delta.can : Can Tryd.prog 43 := can_of (fn := Tryd.f43) (by kernel_rfl) (by kernel_rfl) (by kernel_rfl)
theorem spec_l13Delta.snd (k : Nat) : Snd Tryd.prog Jp 43 ⟨spec_l13Delta.ps, spec_l13Delta.rs, spec_l13Delta.F k⟩ := snd_of E_ok spec_l13Delta.ok mixed (fn := Tryd.f43) (by kernel_rfl) (by kernel_rfl) (by kernel_rfl) k
noncomputable def spec_l13AnyWord.C (k : Nat) : CEs := [(58, ⟨spec_l1Rd__pick.ps, spec_l1Rd__pick.rs, spec_l1Rd__pick.F k⟩), (66, ⟨spec_l1Rd__of.ps, spec_l1Rd__of.rs, spec_l1Rd__of.F k⟩), (78, ⟨spec_l13Word.ps, spec_l13Word.rs, spec_l13Word.F k⟩)]
abbrev spec_l13AnyWord.ps : List Par := [⟨t80, .bx .ro⟩]
abbrev spec_l13AnyWord.rs : List Res := [⟨.str, .ro, false⟩]
def spec_l13AnyWord.H : Heads := []
noncomputable def spec_l13AnyWord.F : Nat → ProdT (spec_l13AnyWord.ps.map (·.τ)) → Option (ProdT (outs spec_l13AnyWord.ps spec_l13AnyWord.rs)) := evFn E spec_l13AnyWord.C spec_l13AnyWord.H Tryd.f59 spec_l13AnyWord.ps spec_l13AnyWord.rs
noncomputable def spec_l13AnyWord.f (k : Nat) (x0 : List Int × Int) : Option (ByteArray × (List Int × Int)) := spec_l13AnyWord.F k x0
theorem spec_l13AnyWord.f_eq (k : Nat) (x0 : List Int × Int) : spec_l13AnyWord.f k x0 = (spec_l1Rd__pick.f k x0 (16 : Int)).bind fun (r0 : Int × (List Int × Int)) => ifb (r0.1 == (0 : Int)) ((spec_l1Rd__of.f k r0.2 [bz, (⟨#[67, 97, 116]⟩ : ByteArray), (⟨#[97, 32, 98]⟩ : ByteArray), (⟨#[97, 98, 99, 97, 98, 99, 97, 98, 99, 97, 98, 99, 97]⟩ : ByteArray), (⟨#[120, 49]⟩ : ByteArray), (⟨#[45]⟩ : ByteArray)]).bind fun (r1 : ByteArray × (List Int × Int)) => some (r1.1, r1.2)) ((spec_l13Word.f k r0.2).bind fun (r2 : ByteArray × (List Int × Int)) => some (r2.1, r2.2)) := by kernel_rfl
theorem spec_l13AnyWord.ok (k : Nat) : CsOk Tryd.prog Jp (spec_l13AnyWord.C k) := .cons (spec_l1Rd__pick.snd k) spec_l1Rd__pick.can <| .cons (spec_l1Rd__of.snd k) spec_l1Rd__of.can <| .cons (spec_l13Word.snd k) spec_l13Word.can <| .nil
theorem spec_l13AnyWord.can : Can Tryd.prog 59 := can_of (fn := Tryd.f59) (by kernel_rfl) (by kernel_rfl) (by kernel_rfl)
theorem spec_l13AnyWord.snd (k : Nat) : Snd Tryd.prog Jp 59 ⟨spec_l13AnyWord.ps, spec_l13AnyWord.rs, spec_l13AnyWord.F k⟩ := snd_of E_ok spec_l13AnyWord.ok mixed (fn := Tryd.f59) (by kernel_rfl) (by kernel_rfl) (by kernel_rfl) k
end Go.Proofs.YtabindnaedchgaaDoor.Rf
end

section
/-
  DERIVED: THE SHELF's CONTRACTS AT THIS DUMP, IN PLAIN WORDS (tools/lay-plain.mjs out of 'TrydEShelf.lean', which tools/lay-shelf.mjs wrote): THE SAME DECLARATIONS UNDER THE SAME NAMES: 'import', 'namespace', 'open', 'def', 'theorem' AND NOTHING ELSE: no command of the shelf's: FOR A HAND-IN. Each laying: the table of numbers ('.._ren') and one theorem, a field a fact of the dump's own or the kernel's comparison; each contract: ONE APPLICATION.
-/
namespace Go.Proofs
open Go.Shelf
def Tryd.laysIdx_ren : Go.Shelf.Ren := ⟨fun | 6 => 76 | n => n, fun | 22 => 23 | 23 => 43 | 25 => 89 | 3 => 3 | 0 => 0 | 4 => 4 | n => n, fun | n => n⟩
theorem Tryd.laysIdx : Go.Proofs.SlLaysH0.n6 Tryd.prog Tryd.laysIdx_ren := {
  mixed := by kernel_rfl
  f6 := ⟨Tryd.f76.name, by decide, Tryd.func76.trans (congrArg some (by kernel_rfl))⟩
  t0 := Tryd.underlying0
  a0 := Tryd.isAgg0
  z0 := Tryd.sizeOf0
  v0 := Tryd.zeroValue0
  t3 := Tryd.underlying3
  a3 := Tryd.isAgg3
  z3 := Tryd.sizeOf3
  v3 := Tryd.zeroValue3
  t4 := Tryd.underlying4
  a4 := Tryd.isAgg4
  z4 := Tryd.sizeOf4
  v4 := Tryd.zeroValue4
  t22 := Tryd.underlying23
  a22 := Tryd.isAgg23
  z22 := Tryd.sizeOf23
  v22 := Tryd.zeroValue23
  t25 := Tryd.underlying89
  a25 := Tryd.isAgg89
  z25 := Tryd.sizeOf89
  v25 := Tryd.zeroValue89 }
end Go.Proofs
end

section
/- impl.entryAt, walked by hand: slices.IndexFunc with a closure that has captured a text. -/
namespace Go.Proofs.YtabindnaedchgaaDoor.Rf
open Go Go.RowKit
set_option linter.unusedVariables false
set_option linter.unusedSimpArgs false
/-- The cells of an entry. -/
def encE (x : ByteArray × ByteArray) : List Value := [.string x.1, .string x.2]
theorem entry_pred (s : ByteArray) (B : Nat) (w : World) (hB : B < w.heap.size) (hcell : w.cell? ⟨B, 0, none⟩ = some (.string s)) :
    PredBelow Tryd.prog 77 #[.pointer (some ⟨B, 0, none⟩)] (fun x => .agg (encE x).toArray) (fun x => x.1.toList == s.toList) w := fun W x hb => by
  have hc : W.cell? ⟨B, 0, none⟩ = some (.string s) := (hb.cell (p := ⟨B, 0, none⟩) hB).trans hcell
  have hBW : B < W.heap.size := Nat.lt_of_lt_of_le hB hb.size
  have hne : B ≠ W.heap.size := by omega
  show Calls Tryd.prog 77 #[.agg #[.string x.1, .string x.2], .pointer (some ⟨B, 0, none⟩)] W _
  go_enter Tryd.func77, Tryd.ntmps77
  go_wp2
  go_ret
  exact ⟨rfl, hb.alloc hb.size _⟩
theorem index_empty (a : Option Addr) (c : Nat) (fv : Value) (w : World) :
    Calls Tryd.prog 76 #[.slice a 0 c, fv] w fun e w' => e = .returned (.int .i64 (-1)) ∧ w' = w := by
  go_enter Tryd.func76, Tryd.ntmps76
  go_wp2
  go_loopg [5, 8] 0 (fun _ _ s8 wr => s8 = .int .i64 0 ∧ wr = w)
  case atStart => exact ⟨rfl, rfl⟩
  case round =>
    obtain ⟨rfl, rfl⟩ := hrel
    go_wp2
    go_ret
    exact ⟨rfl, rfl⟩
instance instEn : Inhabited (ByteArray × ByteArray) := ⟨(ByteArray.empty, ByteArray.empty)⟩
/-- The place of the first entry with a stem. -/
def idxE (l : List (ByteArray × ByteArray)) (s : ByteArray) : Int := Lib.idxBy (fun _ y => y.1.toList == s.toList) l default
set_option maxHeartbeats 4000000 in
theorem entryAt_calls (A0 : Option Addr) (c0 : Nat) (l0 : List (ByteArray × ByteArray)) (a1 : ByteArray) (w : World) (hlen : l0.length ≤ 4611686018427387904)
    (hr : l0 = [] ∨ ∃ b off, A0 = some ⟨b, off, none⟩ ∧ b < w.heap.size ∧ ∀ j, j < l0.length → ∀ i v, (encE l0[j]!)[i]? = some v → w.cell? ⟨b, off + j * 2 + i, none⟩ = some v) :
    Calls Tryd.prog 54 #[.slice A0 l0.length c0, .string a1] w fun e w' => e = .returned (.int .i64 (idxE l0 a1)) ∧ Below w.heap.size w w' := by
  have hcon : Calls Tryd.prog 76 #[.slice A0 l0.length c0, .func (.func 77) #[] #[.pointer (some ⟨w.heap.size, 0, none⟩)]] (w.alloc (.cells #[.string a1] 9)) fun e w' => e = .returned (.int .i64 (idxE l0 a1)) ∧ Below (w.alloc (.cells #[.string a1] 9)).heap.size (w.alloc (.cells #[.string a1] 9)) w' := by
    rcases hr with rfl | ⟨b, off, rfl, hb, hc⟩
    · exact (index_empty A0 c0 _ _).mono fun e w' ⟨he, hw⟩ => ⟨he, hw ▸ Below.refl _ _⟩
    · have eg : ∀ args w, (callFunc 77 args).run Tryd.prog w = .ok (.enter 77 args) w := enters_of Tryd.func77 (by kernel_rfl) rfl
      have h := AnyQ.slices_IndexFunc Tryd.laysIdx 2 Tryd.isAgg43 Tryd.sizeOf43 encE (fun _ => rfl) (fun x => x.1.toList == a1.toList) 77 #[.pointer (some ⟨w.heap.size, 0, none⟩)] eg b off l0.length c0 l0 (w.alloc (.cells #[.string a1] 9))
        (entry_pred a1 w.heap.size _ (by simp) (by simp)) (Nat.le_refl _) (by omega) (by simp; omega) (fun j hj i v hi => Lib.cell?_alloc_some _ (hc j hj i v hi))
      rw [List.take_length] at h
      exact h
  unfold idxE at hcon ⊢
  generalize Lib.idxBy (fun _ y => y.1.toList == a1.toList) l0 default = r at hcon ⊢
  go_enter Tryd.func54, Tryd.ntmps54
  go_wp2_with (go_at_call 76; refine hcon.mono ?_; rintro e w' ⟨rfl, hb'⟩)
  go_ret
  exact ⟨rfl, ((Below.refl _ w).alloc (Nat.le_refl _) _).trans (hb'.mono (by simp))⟩
abbrev impl_entryAt.ps : List Par := [⟨.row (.st (.pair .str .str)), .rd⟩, ⟨.str, .rd⟩]
abbrev impl_entryAt.rs : List Res := [⟨.int .i64, .ro, false⟩]
def impl_entryAt.F (_ : Nat) (x : List (ByteArray × ByteArray) × ByteArray) : Option Int := if x.1.length ≤ 4611686018427387904 then some (idxE x.1 x.2) else none
def impl_entryAt.f (k : Nat) (l : List (ByteArray × ByteArray)) (s : ByteArray) : Option Int := impl_entryAt.F k (l, s)
theorem impl_entryAt.can : Can Tryd.prog 54 := can_of (fn := Tryd.f54) (by kernel_rfl) (by kernel_rfl) (by kernel_rfl)
theorem impl_entryAt.snd (k : Nat) : Snd Tryd.prog Jp 54 ⟨impl_entryAt.ps, impl_entryAt.rs, impl_entryAt.F k⟩ := by
  refine snd_ro rfl ?_
  rintro ⟨l, s⟩ r hr ξ w vs wf _ hsz ha
  simp only [impl_entryAt.F] at hr
  split at hr
  case isFalse => cases hr
  rename_i hlen
  obtain rfl := Option.some.inj hr
  obtain ⟨T0, cs, h0, h1⟩ := ha 0 _ _ rfl rfl
  obtain ⟨T1, h2⟩ := ha 1 _ _ rfl rfl
  have h2 := own_str (by simp) h2
  obtain ⟨A, cap, rfl, k1, k2⟩ := h1.row_ro
  obtain rfl := vs_two hsz h0 h2
  refine (entryAt_calls A cap l s w hlen ?_).mono ?_
  · rcases Nat.eq_zero_or_pos l.length with h | h
    · exact .inl (List.eq_nil_of_length_eq_zero h)
    · obtain ⟨a, c, e1, e2, e3, e4, e5⟩ := k2 0 h
      obtain rfl := rel_pair e5
      obtain ⟨b, off, sp⟩ := a
      simp only at e2 e4
      subst e2
      refine .inr ⟨b, off, e1, cell_lt (e4 0 _ rfl), fun j hj i v hi => ?_⟩
      obtain ⟨a', c', g1, g2, g3, g4, g5⟩ := k2 j hj
      rw [e1] at g1
      obtain rfl := Option.some.inj g1
      obtain rfl := rel_pair g5
      rw [show l[j]! = l[j] from getElem!_pos l j hj] at hi
      exact g4 i v hi
  · rintro e w' ⟨he, hb⟩
    exact ⟨_, Em, he, hb, of_int _ _ _ _ _, fun b hb => hb.elim⟩
end Go.Proofs.YtabindnaedchgaaDoor.Rf
end

section
/- Contracts of texts alone: how they are told. -/
namespace Go.Proofs.YtabindnaedchgaaDoor.Rf
open Go Go.RowKit
set_option linter.unusedVariables false
set_option linter.unusedSimpArgs false
/-- a row of texts that has just been made -/
theorem own_strs {ξ : Im} {w : World} (wf : Wf ξ w) (xs : List ByteArray) (t : TypeId) :
    SOwn ξ (w.alloc (.cells (xs.map Value.string).toArray t)) (.d (.row .str) xs (.own .ro)) (.slice (some ⟨w.heap.size, 0, none⟩) xs.length xs.length) (fun b => b = w.heap.size) := by
  have hh : (w.alloc (.cells (xs.map Value.string).toArray t)).heap[w.heap.size]? = some (.cells (xs.map Value.string).toArray t) := by show (w.heap.push _)[w.heap.size]? = _; simp
  refine ⟨[.slice (some ⟨w.heap.size, 0, none⟩) xs.length xs.length], rfl, .inr ⟨⟨w.heap.size, 0, none⟩, xs.length, _, t, _, fun _ => Em, rfl, rfl, rfl, hh, ?_, Nat.le_refl _, ?_, ?_, fun i => ⟨Sb.em _, fun x => x⟩, fun _ _ _ => Dj.em _, fun i hi => ?_⟩⟩
  · intro o _ h; simp at h
  · show 0 + xs.length * 1 ≤ _; simp
  · show ξ w.heap.size ≤ 0; rw [wf _ (Nat.le_refl _)]; exact Nat.le_refl _
  · refine ⟨[.string xs[i]], rfl, ?_, rfl, fun _ => rfl⟩
    intro j v hv
    have hj : j < 1 := (List.getElem?_eq_some_iff.1 hv).1
    obtain rfl : j = 0 := by omega
    show World.cell? _ ⟨w.heap.size, 0 + i * 1 + 0, none⟩ = some v
    rw [cell_of hh, ← hv]
    simp [hi]
theorem fresh_one (w : World) (o : Obj) : ∀ b, b = w.heap.size → w.heap.size ≤ b ∧ b < (w.alloc o).heap.size := fun b hb => by
  subst hb; simp
theorem below_alloc1 (w : World) (o : Obj) : Below w.heap.size w (w.alloc o) := (Below.refl _ w).alloc (Nat.le_refl _) o
theorem below_drewN_ (w : World) (k : Nat) : Below w.heap.size w (w.drewN k) := ⟨rfl, rfl, rfl, Nat.le_refl _, fun _ _ => rfl⟩
/-- a row of texts that is read: where it lies -/
theorem strs_ro {ξ : Im} {w : World} {l : List ByteArray} {v : Value} {T : Bs} (h : SOwn ξ w (.d (.row .str) l .ro) v T) :
    ∃ A cap, v = .slice A l.length cap ∧ l.length ≤ cap ∧ (l = [] ∨ ∃ b off, A = some ⟨b, off, none⟩ ∧ b < w.heap.size ∧ ∀ (j : Nat) (x : ByteArray), l[j]? = some x → w.cell? ⟨b, off + j, none⟩ = some (.string x)) := by
  obtain ⟨cs, h0, h1⟩ := h
  obtain ⟨A, cap, rfl, k1, k2⟩ := h1.row_ro
  refine ⟨A, cap, h0, k1, ?_⟩
  rcases Nat.eq_zero_or_pos l.length with hz | hz
  · exact .inl (List.eq_nil_of_length_eq_zero hz)
  · obtain ⟨a, c, e1, e2, e3, e4, e5⟩ := k2 0 hz
    obtain rfl : c = [.string l[0]] := e5.2 (by simp)
    obtain ⟨b, off, sp⟩ := a
    simp only at e2 e4
    subst e2
    refine .inr ⟨b, off, e1, cell_lt (e4 0 _ rfl), fun j x hj => ?_⟩
    obtain ⟨hjl, rfl⟩ := List.getElem?_eq_some_iff.1 hj
    obtain ⟨a', c', g1, g2, g3, g4, g5⟩ := k2 j hjl
    rw [e1] at g1
    obtain rfl := Option.some.inj g1
    obtain rfl : c' = [.string l[j]] := g5.2 (by simp)
    have := g4 0 _ rfl
    rwa [show off + j * Ty.str.n + 0 = off + j from (show off + j * 1 + 0 = off + j by omega)] at this
end Go.Proofs.YtabindnaedchgaaDoor.Rf
end

section
/- What the program computes, told plainly: words, affixes, entries, books, deltas. Nothing of any program. -/
namespace Go.Proofs.YtabindnaedchgaaDoor.Rf
open Go Go.RowKit
def Sm (n : Nat) : Prop := n ≤ 4611686018427387904
def smA (a : Aff) : Prop := Sm a.1.size ∧ Sm a.2.2.1.size ∧ Sm a.2.2.2.1.size ∧ Sm a.2.2.2.2.size
def smE (e : En) : Prop := Sm e.1.size ∧ Sm e.2.size
def smB (b : Book) : Prop := (b.1.length ≤ 1099511627776 ∧ ∀ a ∈ b.1, smA a) ∧ b.2.length ≤ 1099511627776 ∧ ∀ e ∈ b.2, smE e
def smD (d : Delta) : Prop := (d.1.length ≤ 1099511627776 ∧ ∀ s ∈ d.1, Sm s.size) ∧ (d.2.1.length ≤ 1099511627776 ∧ ∀ e ∈ d.2.1, smE e) ∧ d.2.2.2.length ≤ 1099511627776 ∧ ∀ a ∈ d.2.2.2, smA a
def lowB (n : Nat) : Bool := decide (97 ≤ n) && decide (n ≤ 122)
def upB (n : Nat) : Bool := decide (65 ≤ n) && decide (n ≤ 90)
def lowsB (s : ByteArray) : Bool := allN s.size fun i => lowB (bN s i)
def lettersB (s : ByteArray) (m : Nat) : Bool := lowsB s && decide (s.size ≤ m)
def wordB (s : ByteArray) : Bool := decide (0 < s.size) && lettersB s 12
def flagB (s : ByteArray) : Bool := decide (s.size = 1) && upB (bN s 0)
def begB (s w : ByteArray) : Bool := decide (w.size ≤ s.size) && decide (s.extract 0 w.size = w)
def endB (s w : ByteArray) : Bool := decide (w.size ≤ s.size) && decide (s.extract (s.size - w.size) s.size = w)
def affB (a : Aff) : Bool := flagB a.1 && (lettersB a.2.2.1 4 && (lettersB a.2.2.2.1 4 && (lettersB a.2.2.2.2 4 && if a.2.1 then begB a.2.2.2.2 a.2.2.1 else endB a.2.2.2.2 a.2.2.1)))
def ltS (s t : ByteArray) : Bool := Op.bytesLess s.toList t.toList
def entB (e : En) : Bool := (allN e.2.size fun i => upB (bN e.2 i) && (decide (i = 0) || decide (bN e.2 (i - 1) < bN e.2 i))) && (wordB e.1 && decide (e.2.size ≤ 4))
def affsB (l : List Aff) : Bool := (allN l.length fun i => affB (l.getD i zA) && allN i fun j => !decide (l.getD j zA = l.getD i zA)) && decide (l.length ≤ 8)
def entsB (l : List En) : Bool := (allN l.length fun i => entB (l.getD i zE) && (decide (i = 0) || ltS (l.getD (i - 1) zE).1 (l.getD i zE).1)) && decide (l.length ≤ 24)
def wordsB (l : List ByteArray) : Bool := (allN l.length fun i => wordB (l.getD i bz) && (decide (i = 0) || ltS (l.getD (i - 1) bz) (l.getD i bz))) && decide (l.length ≤ 24)
def bookB (b : Book) : Bool := affsB b.1 && entsB b.2
/-- a stem is one of a list's -/
def hasE (l : List En) (s : ByteArray) : Bool := l.any fun e => decide (e.1 = s)
def deltaB (d : Delta) : Bool := wordsB d.1 && (entsB d.2.1 && (affsB d.2.2.2 && ((d.2.2.1 || decide (d.2.2.2.length = 0)) && d.1.all fun s => !hasE d.2.1 s)))
end Go.Proofs.YtabindnaedchgaaDoor.Rf
end

section
/- Entries put in one by one by their stems: the one sorted order. Plain. -/
namespace Go.Proofs.YtabindnaedchgaaDoor.Rf
open Go Go.RowKit
set_option linter.unusedVariables false
set_option linter.unusedSimpArgs false

def ltE (a b : (ByteArray × ByteArray)) : Bool := Op.bytesLess a.1.toList b.1.toList
theorem ltE_eq (a b : (ByteArray × ByteArray)) : ltE a b = Go.Sort.ltStr a.1.toList b.1.toList := Go.Proofs.bytesLess_eq _ _
theorem ltE_irrefl (a : (ByteArray × ByteArray)) : ltE a a = false := by
  rw [ltE_eq]
  exact Go.Sort.swo_ltStr.irrefl _
theorem ltE_trans {a b c : (ByteArray × ByteArray)} (h1 : ltE a b = true) (h2 : ltE b c = true) : ltE a c = true := by
  rw [ltE_eq] at *
  exact Go.Sort.swo_ltStr.trans _ _ _ h1 h2
theorem ltE_ntrans {a b c : (ByteArray × ByteArray)} (h1 : ltE a b = false) (h2 : ltE b c = false) : ltE a c = false := by
  rw [ltE_eq] at *
  exact Go.Sort.swo_ltStr.ntrans _ _ _ h1 h2
theorem ltE_asymm {a b : (ByteArray × ByteArray)} (h : ltE a b = true) : ltE b a = false := by
  cases h2 : ltE b a
  · rfl
  · have h3 := ltE_trans h h2
    rw [ltE_irrefl] at h3
    cases h3
theorem ltE_tri {a b : (ByteArray × ByteArray)} (h1 : ltE a b = false) (h2 : ltE b a = false) : a.1.toList = b.1.toList := by
  rw [ltE_eq] at *
  simp only [Go.Sort.ltStr, decide_eq_false_iff_not, List.not_lt] at h1 h2
  exact List.le_antisymm h2 h1
/-- An entry put in ahead of the first one whose stem is no less. -/
def insE (e : (ByteArray × ByteArray)) : List (ByteArray × ByteArray) → List (ByteArray × ByteArray)
  | [] => [e]
  | x :: xs => if ltE x e = true then x :: insE e xs else e :: x :: xs
theorem insE_perm (e : (ByteArray × ByteArray)) : ∀ l, (insE e l).Perm (e :: l)
  | [] => .refl _
  | x :: xs => by
    unfold insE
    split
    · exact ((insE_perm e xs).cons x).trans (.swap e x xs)
    · exact .refl _
theorem insE_sorted (e : (ByteArray × ByteArray)) : ∀ l, l.Pairwise (fun a b => ltE b a = false) → (insE e l).Pairwise (fun a b => ltE b a = false)
  | [], _ => by simp [insE]
  | x :: xs, h => by
    unfold insE
    have h' := List.pairwise_cons.1 h
    by_cases c : ltE x e = true
    · rw [if_pos c]
      refine List.pairwise_cons.2 ⟨fun b hb => ?_, insE_sorted e xs h'.2⟩
      rcases List.mem_cons.1 ((insE_perm e xs).mem_iff.1 hb) with z | hb
      · rw [z]
        exact ltE_asymm c
      · exact h'.1 b hb
    · rw [if_neg c]
      have c' : ltE x e = false := by simpa using c
      refine List.pairwise_cons.2 ⟨fun b hb => ?_, h⟩
      rcases List.mem_cons.1 hb with z | hb
      · rw [z]
        exact c'
      · exact ltE_ntrans (h'.1 b hb) c'
def sortE (xs : List (ByteArray × ByteArray)) : List (ByteArray × ByteArray) := xs.foldl (fun l e => insE e l) []
theorem fold_perm : ∀ (xs l : List (ByteArray × ByteArray)), (xs.foldl (fun l e => insE e l) l).Perm (l ++ xs)
  | [], l => by simp
  | x :: xs, l => by
    refine (fold_perm xs (insE x l)).trans ?_
    refine ((insE_perm x l).append_right xs).trans ?_
    exact (List.perm_middle (a := x) (l₁ := l) (l₂ := xs)).symm
theorem fold_sorted : ∀ (xs l : List (ByteArray × ByteArray)), l.Pairwise (fun a b => ltE b a = false) → (xs.foldl (fun l e => insE e l) l).Pairwise (fun a b => ltE b a = false)
  | [], l, h => h
  | x :: xs, l, h => fold_sorted xs _ (insE_sorted x l h)
theorem stem_inj : ∀ (xs : List (ByteArray × ByteArray)), (xs.map (fun e => e.1)).Pairwise (fun a b => a ≠ b) → ∀ a ∈ xs, ∀ b ∈ xs, a.1 = b.1 → a = b
  | [], _, a, ha, _, _, _ => by simp at ha
  | x :: xs, h, a, ha, b, hb, e => by
    rw [List.map_cons, List.pairwise_cons] at h
    rcases List.mem_cons.1 ha with za | ha' <;> rcases List.mem_cons.1 hb with zb | hb'
    · rw [za, zb]
    · rw [za] at e
      exact absurd e (h.1 _ (List.mem_map.2 ⟨b, hb', rfl⟩))
    · rw [zb] at e
      exact absurd e.symm (h.1 _ (List.mem_map.2 ⟨a, ha', rfl⟩))
    · exact stem_inj xs h.2 a ha' b hb' e
theorem sort_unique {xs ys : List (ByteArray × ByteArray)} (hd : (xs.map (fun e => e.1)).Pairwise (fun a b => a ≠ b)) (hp : ys.Perm xs) (hs : ys.Pairwise (fun a b => ltE b a = false)) : ys = sortE xs := by
  have hq : (sortE xs).Perm xs := by simpa [sortE] using fold_perm xs []
  refine List.Perm.eq_of_pairwise (le := fun a b => ltE b a = false) ?_ hs (fold_sorted xs [] .nil) (hp.trans hq.symm)
  intro a b ha hb h1 h2
  have e : a.1.toList = b.1.toList := ltE_tri h2 h1
  refine stem_inj xs hd a (hp.mem_iff.1 ha) b (hq.mem_iff.1 hb) ?_
  rw [ByteArray.toList_eq, ByteArray.toList_eq] at e
  exact ByteArray.ext (Array.toList_inj.1 e)
/-- What is sorted already stays. -/
theorem insE_last (e : (ByteArray × ByteArray)) : ∀ l, (∀ x ∈ l, ltE x e = true) → insE e l = l ++ [e]
  | [], _ => rfl
  | x :: xs, h => by
    unfold insE
    rw [if_pos (h x List.mem_cons_self), insE_last e xs (fun y hy => h y (List.mem_cons_of_mem _ hy))]
    rfl
theorem fold_self : ∀ (xs l : List (ByteArray × ByteArray)), (l ++ xs).Pairwise (fun a b => ltE a b = true) → xs.foldl (fun l e => insE e l) l = l ++ xs
  | [], l, _ => by simp
  | x :: xs, l, h => by
    have h1 : ∀ y ∈ l, ltE y x = true := fun y hy => (List.pairwise_append.1 h).2.2 y hy x List.mem_cons_self
    rw [List.foldl_cons, insE_last x l h1, fold_self xs (l ++ [x]) (by simpa using h)]
    simp
theorem sortE_append (xs ys : List (ByteArray × ByteArray)) (h : xs.Pairwise (fun a b => ltE a b = true)) : sortE (xs ++ ys) = ys.foldl (fun l e => insE e l) xs := by
  unfold sortE
  rw [List.foldl_append, fold_self xs [] (by simpa using h)]
  rfl
end Go.Proofs.YtabindnaedchgaaDoor.Rf
end
