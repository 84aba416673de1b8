import Derived.Test.YtjfkeknnjjlepaaGreatDoorLReleaseTextx1
import Derived.Test.YtjfkeknnjjlepaaGreatDoorKz2
import Derived.Lib.ItoaLen
import Derived.Lib.ItoaMem
import Derived.Lib.SlTrimSet
import Derived.Laws.BitsLemmas
import Derived.Test.YtjfkeknnjjlepaaGreatDoorRows
import Derived.Test.YtjfkeknnjjlepaaGreatDoorCards
import Derived.Test.YtjfkeknnjjlepaaGreatDoorTie
import Derived.WalkKit
import Derived.ProofKit
import Derived.OpenShut
import Derived.ShutString
import Derived.ChangeOld
import Derived.Below
import Derived.Carry
import Derived.SizedLaws
import Derived.Deep.DeepHandedRow
import Derived.Lib.LaidTab
import Derived.Lay

section
namespace Go.Proofs.YtjfkeknnjjlepaaGreatDoor.Rf
open Go Go.RowKit
set_option linter.unusedVariables false
noncomputable section
def q21.C (k : Nat) : CEs := []
abbrev q21.ps : List Par := [⟨t34, .rd⟩]
abbrev q21.rs : List Res := [⟨t141, .ro, true⟩]
def q21.H : q3q := [(3, [(0, .ro)])]
def q21.F := q3t E q21.C q21.H Tryz.f73 q21.ps q21.rs
def q21.J3 (k : Nat) (x0 : List Int) : Option (List Int × Int) := atJ E q21.C q21.H Tryz.f73 q21.ps q21.rs [true, true] 0 [] k (sh 11 [(0, .d t34 x0 .ro)])
def q21.f (k : Nat) (x0 : List Int) : Option (List Int × Int) := q21.F k x0
theorem q21.f_eq (k : Nat) (x0 : List Int) : q21.f k x0 = ifb (decide ((x0.length : Int) > (2000 : Int))) (ifb (decide (0 ≤ (0 : Int)) && (decide ((0 : Int) ≤ (2000 : Int)) && decide ((2000 : Int) ≤ (x0.length : Int)))) (q21.J3 k ((x0.take (2000 : Int).toNat).drop (0 : Int).toNat)) (none)) (q21.J3 k x0) := by kernel_rfl
theorem q21.J3_eq (k : Nat) (x0 : List Int) : q21.J3 (k + 1) x0 = some (x0, (0 : Int)) := by kernel_rfl
abbrev q21.e (k : Nat) : FuncId × CE := (73, ⟨q21.ps, q21.rs, q21.F k⟩)
theorem q21.q (k : Nat) : Qs (q21.e k) := qq (C := q21.C) (fun k => .nil) k
def q02.C (k : Nat) : CEs := []
abbrev q02.ps : List Par := [⟨t141, .bx .ro⟩, ⟨(.int .i64), .rd⟩]
abbrev q02.rs : List Res := [⟨(.int .i64), .ro, false⟩]
def q02.H : q3q := [(8, [(0, .ro), (1, .ro), (6, .ro)])]
def q02.F := q3t E q02.C q02.H Tryz.f117 q02.ps q02.rs
def q02.J8 (k : Nat) (x0 : List Int × Int) (x1 : Int) (x6 : Int) : Option (Int × (List Int × Int)) := atJ E q02.C q02.H Tryz.f117 q02.ps q02.rs [true, true, true, true, true, true] 0 [] k (sh 99 [(0, .box t141 x0 .ro none), (1, .d (.int .i64) x1 .ro), (6, .d (.int .i64) x6 .ro)])
def q02.f (k : Nat) (x0 : List Int × Int) (x1 : Int) : Option (Int × (List Int × Int)) := q02.F k (x0, x1)
theorem q02.f_eq (k : Nat) (x0 : List Int × Int) (x1 : Int) : q02.f k x0 x1 = ifb (decide (x1 < (1 : Int))) (some ((0 : Int), (x0.1, (w64 (x0.2 + 1))))) (ifb ((x0.1.length : Int) == (0 : Int)) (some ((0 : Int), (x0.1, (w64 (x0.2 + 1))))) (ifb (decide ((w64 ((w64 (x0.2 + 1)) - 1)) < (x0.1.length : Int))) (ifb (decide (0 ≤ (w64 ((w64 (x0.2 + 1)) - 1))) && decide ((w64 ((w64 (x0.2 + 1)) - 1)) < (x0.1.length : Int))) (ifb (decide (x1 ≠ 0)) (some (((w64 (x0.1.getD ((w64 ((w64 (x0.2 + 1)) - 1)).toNat) (0 : Int))).tmod x1), (x0.1, (w64 (x0.2 + 1))))) (none)) (none)) (ifb (decide ((x0.1.length : Int) ≠ 0)) (ifb (decide (0 ≤ ((w64 ((w64 (x0.2 + 1)) - 1)).tmod (x0.1.length : Int))) && decide (((w64 ((w64 (x0.2 + 1)) - 1)).tmod (x0.1.length : Int)) < (x0.1.length : Int))) (ifb (decide ((x0.1.length : Int) ≠ 0)) (ifb (decide (0 ≤ ((w64 ((w64 ((w64 ((w64 (x0.2 + 1)) - 1)) * (7 : Int))) + (3 : Int))).tmod (x0.1.length : Int))) && decide (((w64 ((w64 ((w64 ((w64 (x0.2 + 1)) - 1)) * (7 : Int))) + (3 : Int))).tmod (x0.1.length : Int)) < (x0.1.length : Int))) (ifb (decide ((x0.1.length : Int) ≠ 0)) (q02.J8 k (x0.1, (w64 (x0.2 + 1))) x1 (w64 ((w64 ((w64 ((w64 ((w64 (x0.1.getD (((w64 ((w64 (x0.2 + 1)) - 1)).tmod (x0.1.length : Int)).toNat) (0 : Int))) * (131 : Int))) + (w64 ((w64 (x0.1.getD (((w64 ((w64 ((w64 ((w64 (x0.2 + 1)) - 1)) * (7 : Int))) + (3 : Int))).tmod (x0.1.length : Int)).toNat) (0 : Int))) * (1117 : Int))))) + (w64 ((w64 ((w64 (x0.2 + 1)) - 1)) * (29 : Int))))) + (w64 ((w64 ((w64 ((w64 (x0.2 + 1)) - 1)).tdiv (x0.1.length : Int))) * (53 : Int)))))) (none)) (none)) (none)) (none)) (none)))) := by kernel_rfl
theorem q02.J8_eq (k : Nat) (x0 : List Int × Int) (x1 : Int) (x6 : Int) : q02.J8 (k + 1) x0 x1 x6 = ifb (decide ((64 : Int) ≠ 0)) (ifb (decide (x1 ≠ 0)) (some (((w64 ((BitVec.ofInt 64 x6 ^^^ BitVec.ofInt 64 (w64 (x6.tdiv (64 : Int)))).toNat)).tmod x1), x0)) (none)) (none) := by kernel_rfl
abbrev q02.e (k : Nat) : FuncId × CE := (117, ⟨q02.ps, q02.rs, q02.F k⟩)
theorem q02.q (k : Nat) : Qs (q02.e k) := qq (C := q02.C) (fun k => .nil) k
def q1i.C (k : Nat) : CEs := [q02.e k]
abbrev q1i.ps : List Par := [⟨t141, .bx .ro⟩]
abbrev q1i.rs : List Res := [⟨qbz, .ro, false⟩]
def q1i.H : q3q := [(2, [(0, .ro), (2, .ro), (3, (.own .ro))])]
def q1i.F := q3t E q1i.C q1i.H Tryz.f201 q1i.ps q1i.rs
def q1i.J2 (k : Nat) (x0 : List Int × Int) (x2 : Aff) (x3 : List Aff) : Option ((Aff) × (List Int × Int)) := atJ E q1i.C q1i.H Tryz.f201 q1i.ps q1i.rs [true, true] 0 [] k (sh 20 [(0, .box t141 x0 .ro none), (2, .box qbz x2 .ro none), (3, .d t24 x3 (.own .ro))])
def q1i.f (k : Nat) (x0 : List Int × Int) : Option ((Aff) × (List Int × Int)) := q1i.F k x0
theorem q1i.f_eq (k : Nat) (x0 : List Int × Int) : q1i.f k x0 = q1i.J2 k x0 zA [((⟨#[83]⟩ : ByteArray), false, bz, (⟨#[115]⟩ : ByteArray), bz), ((⟨#[83]⟩ : ByteArray), false, (⟨#[121]⟩ : ByteArray), (⟨#[105, 101, 115]⟩ : ByteArray), (⟨#[121]⟩ : ByteArray)), ((⟨#[71]⟩ : ByteArray), false, bz, (⟨#[105, 110, 103]⟩ : ByteArray), bz), ((⟨#[71]⟩ : ByteArray), false, (⟨#[101]⟩ : ByteArray), (⟨#[105, 110, 103]⟩ : ByteArray), (⟨#[101]⟩ : ByteArray)), ((⟨#[85]⟩ : ByteArray), true, bz, (⟨#[117, 110]⟩ : ByteArray), bz), ((⟨#[82]⟩ : ByteArray), true, (⟨#[97]⟩ : ByteArray), (⟨#[98]⟩ : ByteArray), (⟨#[97]⟩ : ByteArray)), ((⟨#[84]⟩ : ByteArray), false, bz, (⟨#[116]⟩ : ByteArray), (⟨#[97, 99]⟩ : ByteArray)), ((⟨#[67]⟩ : ByteArray), false, bz, (⟨#[97, 98, 99]⟩ : ByteArray), bz)] := by kernel_rfl
theorem q1i.J2_eq (k : Nat) (x0 : List Int × Int) (x2 : Aff) (x3 : List Aff) : q1i.J2 (k + 1) x0 x2 x3 = (q02.f k x0 (x3.length : Int)).bind fun (r0 : Int × (List Int × Int)) => ifb (decide (0 ≤ r0.1) && decide (r0.1 < (x3.length : Int))) (some ((x3.getD r0.1.toNat zA), r0.2)) (none) := by kernel_rfl
abbrev q1i.e (k : Nat) : FuncId × CE := (201, ⟨q1i.ps, q1i.rs, q1i.F k⟩)
theorem q1i.q (k : Nat) : Qs (q1i.e k) := qq (C := q1i.C) (fun k => .c (q02.q k) <| .nil) k
def q08.C (k : Nat) : CEs := [q02.e k, q1i.e k]
abbrev q08.ps : List Par := [⟨t141, .bx .ro⟩]
abbrev q08.rs : List Res := [⟨t24, (.own .ro), false⟩]
def q08.H : q3q := [(3, [(0, .ro), (3, (.own .ro)), (4, .ro)]), (8, [(0, .ro), (3, (.own .ro)), (4, .ro), (5, .ro), (6, .ro), (7, .ro)]), (9, [(0, .ro), (3, (.own .ro)), (4, .ro), (5, .ro), (6, .ro), (7, .ro)])]
def q08.F := q3t E q08.C q08.H Tryz.f198 q08.ps q08.rs
def q08.L3 (k k1 : Nat) (x0 : List Int × Int) (x3 : List Aff) (x4 : Int) : Option (List Aff × (List Int × Int)) := atL E q08.C q08.H Tryz.f198 q08.ps q08.rs [true, true, false, true, true] k [] k1 (sh 39 [(0, .box t141 x0 .ro none), (3, .d t24 x3 (.own .ro)), (4, .d (.int .i64) x4 .ro)])
def q08.L8 (k k1 k2 : Nat) (x0 : List Int × Int) (x3 : List Aff) (x4 : Int) (x5 : Aff) (x6 : Bool) (x7 : Int) : Option (List Aff × (List Int × Int)) := atL E q08.C q08.H Tryz.f198 q08.ps q08.rs [true, true, false, true, true, true, true, false, true, true, true, false, true, true] k [k1] k2 (sh 39 [(0, .box t141 x0 .ro none), (3, .d t24 x3 (.own .ro)), (4, .d (.int .i64) x4 .ro), (5, .box qbz x5 .ro none), (6, .d .bool x6 .ro), (7, .d (.int .i64) x7 .ro)])
def q08.J9 (k k1 k2 k3 : Nat) (x0 : List Int × Int) (x3 : List Aff) (x4 : Int) (x5 : Aff) (x6 : Bool) (x7 : Int) : Option (List Aff × (List Int × Int)) := atJ E q08.C q08.H Tryz.f198 q08.ps q08.rs [true, true, false, true, true, true, true, false, true, true, true, false, true, true, true, true, true] k [k1, k2] k3 (sh 39 [(0, .box t141 x0 .ro none), (3, .d t24 x3 (.own .ro)), (4, .d (.int .i64) x4 .ro), (5, .box qbz x5 .ro none), (6, .d .bool x6 .ro), (7, .d (.int .i64) x7 .ro)])
def q08.f (k : Nat) (x0 : List Int × Int) : Option (List Aff × (List Int × Int)) := q08.F k x0
theorem q08.f_eq (k : Nat) (x0 : List Int × Int) : q08.f k x0 = (q02.f k x0 (5 : Int)).bind fun (r0 : Int × (List Int × Int)) => q08.L3 k k r0.2 ([] : List Aff) r0.1 := by kernel_rfl
theorem q08.L3_eq (k k1 : Nat) (x0 : List Int × Int) (x3 : List Aff) (x4 : Int) : q08.L3 k (k1 + 1) x0 x3 x4 = ifb (decide (x4 > 0)) ((q1i.f k1 x0).bind fun (r1 : (Aff) × (List Int × Int)) => q08.L8 k k1 k1 r1.2 x3 x4 r1.1 false (0 : Int)) (some (x3, x0)) := by kernel_rfl
theorem q08.L8_eq (k k1 k2 : Nat) (x0 : List Int × Int) (x3 : List Aff) (x4 : Int) (x5 : Aff) (x6 : Bool) (x7 : Int) : q08.L8 k k1 (k2 + 1) x0 x3 x4 x5 x6 x7 = ifb (decide (x7 < (x3.length : Int))) (ifb x6 (q08.J9 k k1 k2 k2 x0 x3 x4 x5 true x7) (ifb (decide (0 ≤ x7) && decide (x7 < (x3.length : Int))) (q08.J9 k k1 k2 k2 x0 x3 x4 x5 ((((x3.getD x7.toNat zA).1).toList == x5.1.toList) && ((((x3.getD x7.toNat zA).2).1 == x5.2.1) && ((((((x3.getD x7.toNat zA).2).2).1).toList == x5.2.2.1.toList) && (((((((x3.getD x7.toNat zA).2).2).2).1).toList == x5.2.2.2.1.toList) && ((((((x3.getD x7.toNat zA).2).2).2).2).toList == x5.2.2.2.2.toList))))) x7) (none))) (ifb (!x6) (ifb (decide ((x3.length + [x5].length) * 72 ≤ q1r)) (q08.L3 k k1 x0 (x3 ++ [x5]) (w64 (x4 - 1))) (none)) (q08.L3 k k1 x0 x3 (w64 (x4 - 1)))) := by kernel_rfl
theorem q08.J9_eq (k k1 k2 k3 : Nat) (x0 : List Int × Int) (x3 : List Aff) (x4 : Int) (x5 : Aff) (x6 : Bool) (x7 : Int) : q08.J9 k k1 k2 (k3 + 1) x0 x3 x4 x5 x6 x7 = q08.L8 k k1 k2 x0 x3 x4 x5 x6 (w64 (x7 + 1)) := by kernel_rfl
abbrev q08.e (k : Nat) : FuncId × CE := (198, ⟨q08.ps, q08.rs, q08.F k⟩)
theorem q08.q (k : Nat) : Qs (q08.e k) := qq (C := q08.C) (fun k => .c (q02.q k) <| .c (q1i.q k) <| .nil) k
def q0y.C (k : Nat) : CEs := [q02.e k]
abbrev q0y.ps : List Par := [⟨t141, .bx .ro⟩, ⟨(.row .str), .rd⟩]
abbrev q0y.rs : List Res := [⟨.str, .ro, false⟩]
def q0y.F := q3t E q0y.C [] Tryz.f81 q0y.ps q0y.rs
def q0y.f (k : Nat) (x0 : List Int × Int) (x1 : List ByteArray) : Option (ByteArray × (List Int × Int)) := q0y.F k (x0, x1)
theorem q0y.f_eq (k : Nat) (x0 : List Int × Int) (x1 : List ByteArray) : q0y.f k x0 x1 = (q02.f k x0 (x1.length : Int)).bind fun (r0 : Int × (List Int × Int)) => ifb (decide (0 ≤ r0.1) && decide (r0.1 < (x1.length : Int))) (some ((x1.getD r0.1.toNat bz), r0.2)) (none) := by kernel_rfl
abbrev q0y.e (k : Nat) : FuncId × CE := (81, ⟨q0y.ps, q0y.rs, q0y.F k⟩)
theorem q0y.q (k : Nat) : Qs (q0y.e k) := qq (C := q0y.C) (fun k => .c (q02.q k) <| .nil) k
def q3c.C (k : Nat) : CEs := []
abbrev q3c.ps : List Par := [⟨(.int .i64), .rd⟩, ⟨(.int .i64), .rd⟩]
abbrev q3c.rs : List Res := [⟨(.int .i64), .ro, false⟩]
def q3c.F := q3t E q3c.C [] Tryz.f244 q3c.ps q3c.rs
def q3c.f (k : Nat) (x0 : Int) (x1 : Int) : Option (Int) := q3c.F k (x0, x1)
theorem q3c.f_eq (k : Nat) (x0 : Int) (x1 : Int) : q3c.f k x0 x1 = ifb (decide (x0 < x1)) (some x0) (some x1) := by kernel_rfl
abbrev q3c.e (k : Nat) : FuncId × CE := (244, ⟨q3c.ps, q3c.rs, q3c.F k⟩)
theorem q3c.q (k : Nat) : Qs (q3c.e k) := qq (C := q3c.C) (fun k => .nil) k
def q1n.C (k : Nat) : CEs := [q02.e k, q0y.e k, q3c.e k]
abbrev q1n.ps : List Par := [⟨t141, .bx .ro⟩]
abbrev q1n.rs : List Res := [⟨.str, .ro, false⟩]
def q1n.H : q3q := [(4, [(0, .ro), (3, .ro), (4, .ro)])]
def q1n.F := q3t E q1n.C q1n.H Tryz.f200 q1n.ps q1n.rs
def q1n.L4 (k k1 : Nat) (x0 : List Int × Int) (x3 : ByteArray) (x4 : Int) : Option (ByteArray × (List Int × Int)) := atL E q1n.C q1n.H Tryz.f200 q1n.ps q1n.rs [true, false, true, false, true, false, true, true] k [] k1 (sh 28 [(0, .box t141 x0 .ro none), (3, .d .str x3 .ro), (4, .d (.int .i64) x4 .ro)])
def q1n.f (k : Nat) (x0 : List Int × Int) : Option (ByteArray × (List Int × Int)) := q1n.F k x0
theorem q1n.f_eq (k : Nat) (x0 : List Int × Int) : q1n.f k x0 = (q02.f k x0 (3 : Int)).bind fun (r0 : Int × (List Int × Int)) => ifb (r0.1 == (0 : Int)) ((q02.f k r0.2 (5 : Int)).bind fun (r1 : Int × (List Int × Int)) => q1n.L4 k k r1.2 bz (w64 ((1 : Int) + r1.1))) ((q0y.f k r0.2 [(⟨#[99, 97, 116]⟩ : ByteArray), (⟨#[99, 97, 116, 115]⟩ : ByteArray), (⟨#[97, 99, 116]⟩ : ByteArray), (⟨#[100, 111]⟩ : ByteArray), (⟨#[100, 111, 105, 110, 103]⟩ : ByteArray), (⟨#[103, 111]⟩ : ByteArray), (⟨#[117, 110, 100, 111]⟩ : ByteArray), (⟨#[116, 114, 121]⟩ : ByteArray), (⟨#[116, 114, 105, 101, 115]⟩ : ByteArray), (⟨#[97]⟩ : ByteArray), (⟨#[98, 97, 107, 101]⟩ : ByteArray), (⟨#[98, 97, 107, 105, 110, 103]⟩ : ByteArray), (⟨#[116, 97, 99, 116]⟩ : ByteArray), (⟨#[99, 97, 114, 116]⟩ : ByteArray), (⟨#[97, 98, 99, 97, 98, 99, 97, 98, 99, 97, 98, 99]⟩ : ByteArray)]).bind fun (r2 : ByteArray × (List Int × Int)) => some (r2.1, r2.2)) := by kernel_rfl
theorem q1n.L4_eq (k k1 : Nat) (x0 : List Int × Int) (x3 : ByteArray) (x4 : Int) : q1n.L4 k (k1 + 1) x0 x3 x4 = ifb (decide (x4 > 0)) ((q0y.f k1 x0 [(⟨#[97]⟩ : ByteArray), (⟨#[98]⟩ : ByteArray), (⟨#[99]⟩ : ByteArray), (⟨#[97, 98]⟩ : ByteArray), (⟨#[116]⟩ : ByteArray)]).bind fun (r3 : ByteArray × (List Int × Int)) => ifb (q4m (x3.size + r3.1.size)) (q1n.L4 k k1 r3.2 (x3 ++ r3.1) (w64 (x4 - 1))) (none)) ((q3c.f k (x3.size : Int) (12 : Int)).bind fun (r4 : Int) => ifb (decide (0 ≤ (0 : Int)) && (decide ((0 : Int) ≤ r4) && decide (r4 ≤ (x3.size : Int)))) (some ((x3.extract (0 : Int).toNat r4.toNat), x0)) (none)) := by kernel_rfl
abbrev q1n.e (k : Nat) : FuncId × CE := (200, ⟨q1n.ps, q1n.rs, q1n.F k⟩)
theorem q1n.q (k : Nat) : Qs (q1n.e k) := qq (C := q1n.C) (fun k => .c (q02.q k) <| .c (q0y.q k) <| .c (q3c.q k) <| .nil) k
def q2h.C (k : Nat) : CEs := []
abbrev q2h.ps : List Par := [⟨(.row .str), .own (.own .ro)⟩, ⟨.str, .rd⟩]
abbrev q2h.rs : List Res := [⟨(.row .str), (.own .ro), false⟩]
def q2h.H : q3q := [(2, [(0, (.own .ro)), (1, .ro), (5, .ro)])]
def q2h.F := q3t E q2h.C q2h.H Tryz.f199 q2h.ps q2h.rs
def q2h.L2 (k k1 : Nat) (x0 : List ByteArray) (x1 : ByteArray) (x5 : Int) : Option (List ByteArray) := atL E q2h.C q2h.H Tryz.f199 q2h.ps q2h.rs [true, true, false, true] k [] k1 (sh 45 [(0, .d (.row .str) x0 (.own .ro)), (1, .d .str x1 .ro), (5, .d (.int .i64) x5 .ro)])
def q2h.f (k : Nat) (x0 : List ByteArray) (x1 : ByteArray) : Option (List ByteArray) := q2h.F k (x0, x1)
theorem q2h.f_eq (k : Nat) (x0 : List ByteArray) (x1 : ByteArray) : q2h.f k x0 x1 = q2h.L2 k k x0 x1 (0 : Int) := by kernel_rfl
theorem q2h.L2_eq (k k1 : Nat) (x0 : List ByteArray) (x1 : ByteArray) (x5 : Int) : q2h.L2 k (k1 + 1) x0 x1 x5 = ifb (decide (x5 < (x0.length : Int))) (ifb (decide (0 ≤ x5) && decide (x5 < (x0.length : Int))) (ifb (Op.bytesLess (x0.getD x5.toNat bz).toList x1.toList) (q2h.L2 k k1 x0 x1 (w64 (x5 + 1))) (ifb (decide (x5 < (x0.length : Int))) (ifb (decide (0 ≤ x5) && decide (x5 < (x0.length : Int))) (ifb ((x0.getD x5.toNat bz).toList == x1.toList) (some x0) (ifb (decide (0 ≤ (0 : Int)) && (decide ((0 : Int) ≤ x5) && decide (x5 ≤ (x0.length : Int)))) (ifb (decide ((([] : List ByteArray).length + ((x0.take x5.toNat).drop (0 : Int).toNat).length) * 16 ≤ q1r)) (ifb (decide (((([] : List ByteArray) ++ ((x0.take x5.toNat).drop (0 : Int).toNat)).length + [x1].length) * 16 ≤ q1r)) (ifb (decide (0 ≤ x5) && (decide (x5 ≤ (x0.length : Int)) && decide ((x0.length : Int) ≤ (x0.length : Int)))) (ifb (decide ((((([] : List ByteArray) ++ ((x0.take x5.toNat).drop (0 : Int).toNat)) ++ [x1]).length + ((x0.take (x0.length : Int).toNat).drop x5.toNat).length) * 16 ≤ q1r)) (some (((([] : List ByteArray) ++ ((x0.take x5.toNat).drop (0 : Int).toNat)) ++ [x1]) ++ ((x0.take (x0.length : Int).toNat).drop x5.toNat))) (none)) (none)) (none)) (none)) (none))) (none)) (ifb (decide (0 ≤ (0 : Int)) && (decide ((0 : Int) ≤ x5) && decide (x5 ≤ (x0.length : Int)))) (ifb (decide ((([] : List ByteArray).length + ((x0.take x5.toNat).drop (0 : Int).toNat).length) * 16 ≤ q1r)) (ifb (decide (((([] : List ByteArray) ++ ((x0.take x5.toNat).drop (0 : Int).toNat)).length + [x1].length) * 16 ≤ q1r)) (ifb (decide (0 ≤ x5) && (decide (x5 ≤ (x0.length : Int)) && decide ((x0.length : Int) ≤ (x0.length : Int)))) (ifb (decide ((((([] : List ByteArray) ++ ((x0.take x5.toNat).drop (0 : Int).toNat)) ++ [x1]).length + ((x0.take (x0.length : Int).toNat).drop x5.toNat).length) * 16 ≤ q1r)) (some (((([] : List ByteArray) ++ ((x0.take x5.toNat).drop (0 : Int).toNat)) ++ [x1]) ++ ((x0.take (x0.length : Int).toNat).drop x5.toNat))) (none)) (none)) (none)) (none)) (none)))) (none)) (ifb (decide (x5 < (x0.length : Int))) (ifb (decide (0 ≤ x5) && decide (x5 < (x0.length : Int))) (ifb ((x0.getD x5.toNat bz).toList == x1.toList) (some x0) (ifb (decide (0 ≤ (0 : Int)) && (decide ((0 : Int) ≤ x5) && decide (x5 ≤ (x0.length : Int)))) (ifb (decide ((([] : List ByteArray).length + ((x0.take x5.toNat).drop (0 : Int).toNat).length) * 16 ≤ q1r)) (ifb (decide (((([] : List ByteArray) ++ ((x0.take x5.toNat).drop (0 : Int).toNat)).length + [x1].length) * 16 ≤ q1r)) (ifb (decide (0 ≤ x5) && (decide (x5 ≤ (x0.length : Int)) && decide ((x0.length : Int) ≤ (x0.length : Int)))) (ifb (decide ((((([] : List ByteArray) ++ ((x0.take x5.toNat).drop (0 : Int).toNat)) ++ [x1]).length + ((x0.take (x0.length : Int).toNat).drop x5.toNat).length) * 16 ≤ q1r)) (some (((([] : List ByteArray) ++ ((x0.take x5.toNat).drop (0 : Int).toNat)) ++ [x1]) ++ ((x0.take (x0.length : Int).toNat).drop x5.toNat))) (none)) (none)) (none)) (none)) (none))) (none)) (ifb (decide (0 ≤ (0 : Int)) && (decide ((0 : Int) ≤ x5) && decide (x5 ≤ (x0.length : Int)))) (ifb (decide ((([] : List ByteArray).length + ((x0.take x5.toNat).drop (0 : Int).toNat).length) * 16 ≤ q1r)) (ifb (decide (((([] : List ByteArray) ++ ((x0.take x5.toNat).drop (0 : Int).toNat)).length + [x1].length) * 16 ≤ q1r)) (ifb (decide (0 ≤ x5) && (decide (x5 ≤ (x0.length : Int)) && decide ((x0.length : Int) ≤ (x0.length : Int)))) (ifb (decide ((((([] : List ByteArray) ++ ((x0.take x5.toNat).drop (0 : Int).toNat)) ++ [x1]).length + ((x0.take (x0.length : Int).toNat).drop x5.toNat).length) * 16 ≤ q1r)) (some (((([] : List ByteArray) ++ ((x0.take x5.toNat).drop (0 : Int).toNat)) ++ [x1]) ++ ((x0.take (x0.length : Int).toNat).drop x5.toNat))) (none)) (none)) (none)) (none)) (none))) := by kernel_rfl
abbrev q2h.e (k : Nat) : FuncId × CE := (199, ⟨q2h.ps, q2h.rs, q2h.F k⟩)
theorem q2h.q (k : Nat) : Qs (q2h.e k) := qq (C := q2h.C) (fun k => .nil) k
def q2m.C (k : Nat) : CEs := [q0y.e k]
abbrev q2m.ps : List Par := [⟨t141, .bx .ro⟩, ⟨.str, .rd⟩]
abbrev q2m.rs : List Res := [⟨qg3, .ro, false⟩]
def q2m.F := q3t E q2m.C [] Tryz.f195 q2m.ps q2m.rs
def q2m.f (k : Nat) (x0 : List Int × Int) (x1 : ByteArray) : Option (En × (List Int × Int)) := q2m.F k (x0, x1)
theorem q2m.f_eq (k : Nat) (x0 : List Int × Int) (x1 : ByteArray) : q2m.f k x0 x1 = (q0y.f k x0 [bz, bz, (⟨#[83]⟩ : ByteArray), (⟨#[71, 83]⟩ : ByteArray), (⟨#[85]⟩ : ByteArray), (⟨#[71, 85]⟩ : ByteArray), (⟨#[82]⟩ : ByteArray), (⟨#[84]⟩ : ByteArray), (⟨#[67, 82, 83, 85]⟩ : ByteArray)]).bind fun (r0 : ByteArray × (List Int × Int)) => some ((x1, r0.1), r0.2) := by kernel_rfl
abbrev q2m.e (k : Nat) : FuncId × CE := (195, ⟨q2m.ps, q2m.rs, q2m.F k⟩)
theorem q2m.q (k : Nat) : Qs (q2m.e k) := qq (C := q2m.C) (fun k => .c (q0y.q k) <| .nil) k
def q0a.C (k : Nat) : CEs := [q02.e k, q08.e k, q1n.e k, q2h.e k, q2m.e k]
abbrev q0a.ps : List Par := [⟨t141, .bx .ro⟩]
abbrev q0a.rs : List Res := [⟨t39, (.pr (.own .ro) (.own .ro)), false⟩]
def q0a.H : q3q := [(4, [(0, .ro), (2, (.pr (.own .ro) (.own .ro))), (3, (.pr (.own .ro) (.own .ro))), (4, (.own .ro)), (5, .ro)]), (9, [(0, .ro), (2, (.pr (.own .ro) (.own .ro))), (3, (.pr (.own .ro) (.own .ro))), (4, (.own .ro)), (6, .ro)]), (12, [(0, .ro), (2, (.pr (.own .ro) (.own .ro))), (3, (.pr (.own .ro) (.own .ro))), (4, (.own .ro))]), (13, [(0, .ro), (2, (.pr (.own .ro) (.own .ro))), (3, (.pr (.own .ro) (.own .ro))), (4, (.own .ro)), (7, .ro)])]
def q0a.F := q3t E q0a.C q0a.H Tryz.f142 q0a.ps q0a.rs
def q0a.L4 (k k1 : Nat) (x0 : List Int × Int) (x2 : Book) (x3 : Book) (x4 : List ByteArray) (x5 : Int) : Option (Book × (List Int × Int)) := atL E q0a.C q0a.H Tryz.f142 q0a.ps q0a.rs [true, true, true, false, true, true] k [] k1 (sh 56 [(0, .box t141 x0 .ro none), (2, .box t39 x2 (.pr (.own .ro) (.own .ro)) none), (3, .box t39 x3 (.pr (.own .ro) (.own .ro)) none), (4, .d (.row .str) x4 (.own .ro)), (5, .d (.int .i64) x5 .ro)])
def q0a.L9 (k k1 : Nat) (x0 : List Int × Int) (x2 : Book) (x3 : Book) (x4 : List ByteArray) (x6 : Int) : Option (Book × (List Int × Int)) := atL E q0a.C q0a.H Tryz.f142 q0a.ps q0a.rs [true, true, true, true, false, true, false, true, true] k [] k1 (sh 56 [(0, .box t141 x0 .ro none), (2, .box t39 x2 (.pr (.own .ro) (.own .ro)) none), (3, .box t39 x3 (.pr (.own .ro) (.own .ro)) none), (4, .d (.row .str) x4 (.own .ro)), (6, .d (.int .i64) x6 .ro)])
def q0a.J12 (k : Nat) (x0 : List Int × Int) (x2 : Book) (x3 : Book) (x4 : List ByteArray) : Option (Book × (List Int × Int)) := atJ E q0a.C q0a.H Tryz.f142 q0a.ps q0a.rs [true, true, true, true, true] 0 [] k (sh 56 [(0, .box t141 x0 .ro none), (2, .box t39 x2 (.pr (.own .ro) (.own .ro)) none), (3, .box t39 x3 (.pr (.own .ro) (.own .ro)) none), (4, .d (.row .str) x4 (.own .ro))])
def q0a.L13 (k k1 : Nat) (x0 : List Int × Int) (x2 : Book) (x3 : Book) (x4 : List ByteArray) (x7 : Int) : Option (Book × (List Int × Int)) := atL E q0a.C q0a.H Tryz.f142 q0a.ps q0a.rs [true, true, true, true, true, false, true, true] 0 [k] k1 (sh 56 [(0, .box t141 x0 .ro none), (2, .box t39 x2 (.pr (.own .ro) (.own .ro)) none), (3, .box t39 x3 (.pr (.own .ro) (.own .ro)) none), (4, .d (.row .str) x4 (.own .ro)), (7, .d (.int .i64) x7 .ro)])
def q0a.f (k : Nat) (x0 : List Int × Int) : Option (Book × (List Int × Int)) := q0a.F k x0
theorem q0a.f_eq (k : Nat) (x0 : List Int × Int) : q0a.f k x0 = (q08.f k x0).bind fun (r0 : List Aff × (List Int × Int)) => (q02.f k r0.2 (7 : Int)).bind fun (r1 : Int × (List Int × Int)) => q0a.L4 k k r1.2 (([] : List Aff), ([] : List En)) (r0.1, ([] : List En)) ([] : List ByteArray) r1.1 := by kernel_rfl
theorem q0a.L4_eq (k k1 : Nat) (x0 : List Int × Int) (x2 : Book) (x3 : Book) (x4 : List ByteArray) (x5 : Int) : q0a.L4 k (k1 + 1) x0 x2 x3 x4 x5 = ifb (decide (x5 > 0)) ((q1n.f k1 x0).bind fun (r2 : ByteArray × (List Int × Int)) => (q2h.f k1 x4 r2.1).bind fun (r3 : List ByteArray) => q0a.L4 k k1 r2.2 x2 x3 r3 (w64 (x5 - 1))) ((q02.f k x0 (30 : Int)).bind fun (r4 : Int × (List Int × Int)) => ifb (r4.1 == (0 : Int)) (q0a.L9 k k r4.2 x2 x3 x4 (0 : Int)) (q0a.J12 k r4.2 x2 x3 x4)) := by kernel_rfl
theorem q0a.L9_eq (k k1 : Nat) (x0 : List Int × Int) (x2 : Book) (x3 : Book) (x4 : List ByteArray) (x6 : Int) : q0a.L9 k (k1 + 1) x0 x2 x3 x4 x6 = ifb (decide ((x4.length : Int) < (24 : Int))) (ifb (q4m ((⟨#[119]⟩ : ByteArray).size + (strOf [(IntKind.u8.wrap (w64 ((97 : Int) + x6)))]).size)) ((q2h.f k1 x4 ((⟨#[119]⟩ : ByteArray) ++ (strOf [(IntKind.u8.wrap (w64 ((97 : Int) + x6)))]))).bind fun (r5 : List ByteArray) => q0a.L9 k k1 x0 x2 x3 r5 (w64 (x6 + 1))) (none)) (q0a.J12 k x0 x2 x3 x4) := by kernel_rfl
theorem q0a.J12_eq (k : Nat) (x0 : List Int × Int) (x2 : Book) (x3 : Book) (x4 : List ByteArray) : q0a.J12 (k + 1) x0 x2 x3 x4 = q0a.L13 k k x0 x2 x3 x4 (0 : Int) := by kernel_rfl
theorem q0a.L13_eq (k k1 : Nat) (x0 : List Int × Int) (x2 : Book) (x3 : Book) (x4 : List ByteArray) (x7 : Int) : q0a.L13 k (k1 + 1) x0 x2 x3 x4 x7 = ifb (decide (x7 < (x4.length : Int))) (ifb (decide (0 ≤ x7) && decide (x7 < (x4.length : Int))) ((q2m.f k1 x0 (x4.getD x7.toNat bz)).bind fun (r6 : En × (List Int × Int)) => ifb (decide ((x3.2.length + [r6.1].length) * 32 ≤ q1r)) (q0a.L13 k k1 r6.2 x2 (x3.1, (x3.2 ++ [r6.1])) x4 (w64 (x7 + 1))) (none)) (none)) (some (x3, x0)) := by kernel_rfl
abbrev q0a.e (k : Nat) : FuncId × CE := (142, ⟨q0a.ps, q0a.rs, q0a.F k⟩)
theorem q0a.q (k : Nat) : Qs (q0a.e k) := qq (C := q0a.C) (fun k => .c (q02.q k) <| .c (q08.q k) <| .c (q1n.q k) <| .c (q2h.q k) <| .c (q2m.q k) <| .nil) k
def q3m.C (k : Nat) : CEs := [q3n.e k]
abbrev q3m.ps : List Par := [⟨.str, .rd⟩]
abbrev q3m.rs : List Res := [⟨.bool, .ro, false⟩]
def q3m.F := q3t E q3m.C [] Tryz.f91 q3m.ps q3m.rs
def q3m.f (k : Nat) (x0 : ByteArray) : Option (Bool) := q3m.F k x0
theorem q3m.f_eq (k : Nat) (x0 : ByteArray) : q3m.f k x0 = (q3n.f k (x0.size : Int) (1 : Int) (64 : Int)).bind fun (r0 : Bool) => ifb r0 (ifb (decide (0 ≤ (w64 ((x0.size : Int) - 1))) && decide ((w64 ((x0.size : Int) - 1)) < (x0.size : Int))) (some ((q33 x0 (w64 ((x0.size : Int) - 1))) != (0 : Int))) (none)) (some false) := by kernel_rfl
abbrev q3m.e (k : Nat) : FuncId × CE := (91, ⟨q3m.ps, q3m.rs, q3m.F k⟩)
theorem q3m.q (k : Nat) : Qs (q3m.e k) := qq (C := q3m.C) (fun k => .c (q3n.q k) <| .nil) k
def q2y.C (k : Nat) : CEs := []
abbrev q2y.ps : List Par := [⟨t23, .rd⟩, ⟨.str, .rd⟩]
abbrev q2y.rs : List Res := [⟨(.int .i64), .ro, false⟩, ⟨.bool, .ro, false⟩]
def q2y.H : q3q := [(2, [(0, .ro), (1, .ro), (6, .ro)])]
def q2y.F := q3t E q2y.C q2y.H Tryz.f157 q2y.ps q2y.rs
def q2y.L2 (k k1 : Nat) (x0 : List En) (x1 : ByteArray) (x6 : Int) : Option (Int × Bool) := atL E q2y.C q2y.H Tryz.f157 q2y.ps q2y.rs [true, true, false, true] k [] k1 (sh 36 [(0, .d t23 x0 .ro), (1, .d .str x1 .ro), (6, .d (.int .i64) x6 .ro)])
def q2y.f (k : Nat) (x0 : List En) (x1 : ByteArray) : Option (Int × Bool) := q2y.F k (x0, x1)
theorem q2y.f_eq (k : Nat) (x0 : List En) (x1 : ByteArray) : q2y.f k x0 x1 = q2y.L2 k k x0 x1 (0 : Int) := by kernel_rfl
theorem q2y.L2_eq (k k1 : Nat) (x0 : List En) (x1 : ByteArray) (x6 : Int) : q2y.L2 k (k1 + 1) x0 x1 x6 = ifb (decide (x6 < (x0.length : Int))) (ifb (decide (0 ≤ x6) && decide (x6 < (x0.length : Int))) (ifb (Op.bytesLess ((x0.getD x6.toNat zE).1).toList x1.toList) (q2y.L2 k k1 x0 x1 (w64 (x6 + 1))) (ifb (decide (x6 < (x0.length : Int))) (ifb (decide (0 ≤ x6) && decide (x6 < (x0.length : Int))) (some (x6, (((x0.getD x6.toNat zE).1).toList == x1.toList))) (none)) (some (x6, false)))) (none)) (ifb (decide (x6 < (x0.length : Int))) (ifb (decide (0 ≤ x6) && decide (x6 < (x0.length : Int))) (some (x6, (((x0.getD x6.toNat zE).1).toList == x1.toList))) (none)) (some (x6, false))) := by kernel_rfl
abbrev q2y.e (k : Nat) : FuncId × CE := (157, ⟨q2y.ps, q2y.rs, q2y.F k⟩)
theorem q2y.q (k : Nat) : Qs (q2y.e k) := qq (C := q2y.C) (fun k => .nil) k
def q13.C (k : Nat) : CEs := []
abbrev q13.ps : List Par := [⟨t24, .rd⟩, ⟨t24, .rd⟩]
abbrev q13.rs : List Res := [⟨.bool, .ro, false⟩]
def q13.H : q3q := [(4, [(0, .ro), (1, .ro), (5, .ro)])]
def q13.F := q3t E q13.C q13.H Tryz.f158 q13.ps q13.rs
def q13.L4 (k k1 : Nat) (x0 : List Aff) (x1 : List Aff) (x5 : Int) : Option (Bool) := atL E q13.C q13.H Tryz.f158 q13.ps q13.rs [true, true, false, true, true] k [] k1 (sh 26 [(0, .d t24 x0 .ro), (1, .d t24 x1 .ro), (5, .d (.int .i64) x5 .ro)])
def q13.f (k : Nat) (x0 : List Aff) (x1 : List Aff) : Option (Bool) := q13.F k (x0, x1)
theorem q13.f_eq (k : Nat) (x0 : List Aff) (x1 : List Aff) : q13.f k x0 x1 = ifb ((x0.length : Int) != (x1.length : Int)) (some false) (q13.L4 k k x0 x1 (0 : Int)) := by kernel_rfl
theorem q13.L4_eq (k k1 : Nat) (x0 : List Aff) (x1 : List Aff) (x5 : Int) : q13.L4 k (k1 + 1) x0 x1 x5 = ifb (decide (x5 < (x0.length : Int))) (ifb (decide (0 ≤ x5) && decide (x5 < (x0.length : Int))) (ifb (decide (0 ≤ x5) && decide (x5 < (x1.length : Int))) (ifb (!((((x0.getD x5.toNat zA).1).toList == ((x1.getD x5.toNat zA).1).toList) && ((((x0.getD x5.toNat zA).2).1 == ((x1.getD x5.toNat zA).2).1) && ((((((x0.getD x5.toNat zA).2).2).1).toList == ((((x1.getD x5.toNat zA).2).2).1).toList) && (((((((x0.getD x5.toNat zA).2).2).2).1).toList == (((((x1.getD x5.toNat zA).2).2).2).1).toList) && ((((((x0.getD x5.toNat zA).2).2).2).2).toList == (((((x1.getD x5.toNat zA).2).2).2).2).toList)))))) (some false) (q13.L4 k k1 x0 x1 (w64 (x5 + 1)))) (none)) (none)) (some true) := by kernel_rfl
abbrev q13.e (k : Nat) : FuncId × CE := (158, ⟨q13.ps, q13.rs, q13.F k⟩)
theorem q13.q (k : Nat) : Qs (q13.e k) := qq (C := q13.C) (fun k => .nil) k
def q0j.C (k : Nat) : CEs := [q1k.e k, q2y.e k, q13.e k]
abbrev q0j.ps : List Par := [⟨t39, .rd⟩, ⟨t39, .rd⟩]
abbrev q0j.rs : List Res := [⟨t25, (.pr (.own .ro) (.pr (.own .ro) (.pr .ro (.own .ro)))), false⟩]
def q0j.H : q3q := [(5, [(2, .ro), (3, .ro), (4, (.pr (.own .ro) (.pr (.own .ro) (.pr .ro (.own .ro))))), (5, (.pr (.own .ro) (.pr (.own .ro) (.pr .ro (.own .ro))))), (6, .ro)]), (11, [(2, .ro), (3, .ro), (4, (.pr (.own .ro) (.pr (.own .ro) (.pr .ro (.own .ro))))), (5, (.pr (.own .ro) (.pr (.own .ro) (.pr .ro (.own .ro))))), (9, .ro)])]
def q0j.F := q3t E q0j.C q0j.H Tryz.f94 q0j.ps q0j.rs
def q0j.L5 (k k1 : Nat) (x2 : Book) (x3 : Book) (x4 : Delta) (x5 : Delta) (x6 : Int) : Option Delta := atL E q0j.C q0j.H Tryz.f94 q0j.ps q0j.rs [true, true, true, false, true, true] k [] k1 (sh 111 [(2, .box t39 x2 .ro none), (3, .box t39 x3 .ro none), (4, .box t25 x4 (.pr (.own .ro) (.pr (.own .ro) (.pr .ro (.own .ro)))) none), (5, .box t25 x5 (.pr (.own .ro) (.pr (.own .ro) (.pr .ro (.own .ro)))) none), (6, .d (.int .i64) x6 .ro)])
def q0j.L11 (k k1 : Nat) (x2 : Book) (x3 : Book) (x4 : Delta) (x5 : Delta) (x9 : Int) : Option Delta := atL E q0j.C q0j.H Tryz.f94 q0j.ps q0j.rs [true, true, true, true, false, true, true] k [] k1 (sh 111 [(2, .box t39 x2 .ro none), (3, .box t39 x3 .ro none), (4, .box t25 x4 (.pr (.own .ro) (.pr (.own .ro) (.pr .ro (.own .ro)))) none), (5, .box t25 x5 (.pr (.own .ro) (.pr (.own .ro) (.pr .ro (.own .ro)))) none), (9, .d (.int .i64) x9 .ro)])
def q0j.f (k : Nat) (x0 : Book) (x1 : Book) : Option Delta := q0j.F k (x0, x1)
theorem q0j.f_eq (k : Nat) (x0 : Book) (x1 : Book) : q0j.f k x0 x1 = (q1k.f k x0).bind fun (r0 : Bool) => ifb (!r0) (some (([] : List ByteArray), ([] : List En), false, ([] : List Aff))) ((q1k.f k x1).bind fun (r1 : Bool) => ifb (!r1) (some (([] : List ByteArray), ([] : List En), false, ([] : List Aff))) (q0j.L5 k k x0 x1 (([] : List ByteArray), ([] : List En), false, ([] : List Aff)) (([] : List ByteArray), ([] : List En), false, ([] : List Aff)) (0 : Int))) := by kernel_rfl
theorem q0j.L5_eq (k k1 : Nat) (x2 : Book) (x3 : Book) (x4 : Delta) (x5 : Delta) (x6 : Int) : q0j.L5 k (k1 + 1) x2 x3 x4 x5 x6 = ifb (decide (x6 < (x2.2.length : Int))) (ifb (decide (0 ≤ x6) && decide (x6 < (x2.2.length : Int))) ((q2y.f k1 x3.2 ((x2.2.getD x6.toNat zE).1)).bind fun (r2 : Int × Bool) => ifb (!r2.2) (ifb (decide (0 ≤ x6) && decide (x6 < (x2.2.length : Int))) (ifb (decide ((x5.1.length + [(x2.2.getD x6.toNat zE).1].length) * 16 ≤ q1r)) (q0j.L5 k k1 x2 x3 x4 ((x5.1 ++ [(x2.2.getD x6.toNat zE).1]), x5.2) (w64 (x6 + 1))) (none)) (none)) (q0j.L5 k k1 x2 x3 x4 x5 (w64 (x6 + 1)))) (none)) (q0j.L11 k k x2 x3 x4 x5 (0 : Int)) := by kernel_rfl
theorem q0j.L11_eq (k k1 : Nat) (x2 : Book) (x3 : Book) (x4 : Delta) (x5 : Delta) (x9 : Int) : q0j.L11 k (k1 + 1) x2 x3 x4 x5 x9 = ifb (decide (x9 < (x3.2.length : Int))) (ifb (decide (0 ≤ x9) && decide (x9 < (x3.2.length : Int))) ((q2y.f k1 x2.2 ((x3.2.getD x9.toNat zE).1)).bind fun (r3 : Int × Bool) => ifb (!r3.2) (ifb (decide (0 ≤ x9) && decide (x9 < (x3.2.length : Int))) (ifb (decide ((x5.2.1.length + [(x3.2.getD x9.toNat zE)].length) * 32 ≤ q1r)) (q0j.L11 k k1 x2 x3 x4 (x5.1, (x5.2.1 ++ [(x3.2.getD x9.toNat zE)]), x5.2.2) (w64 (x9 + 1))) (none)) (none)) (ifb (decide (0 ≤ r3.1) && decide (r3.1 < (x2.2.length : Int))) (ifb (decide (0 ≤ x9) && decide (x9 < (x3.2.length : Int))) (ifb (!((((x2.2.getD r3.1.toNat zE).1).toList == ((x3.2.getD x9.toNat zE).1).toList) && (((x2.2.getD r3.1.toNat zE).2).toList == ((x3.2.getD x9.toNat zE).2).toList))) (ifb (decide (0 ≤ x9) && decide (x9 < (x3.2.length : Int))) (ifb (decide ((x5.2.1.length + [(x3.2.getD x9.toNat zE)].length) * 32 ≤ q1r)) (q0j.L11 k k1 x2 x3 x4 (x5.1, (x5.2.1 ++ [(x3.2.getD x9.toNat zE)]), x5.2.2) (w64 (x9 + 1))) (none)) (none)) (q0j.L11 k k1 x2 x3 x4 x5 (w64 (x9 + 1)))) (none)) (none))) (none)) ((q13.f k x2.1 x3.1).bind fun (r4 : Bool) => ifb (!r4) (ifb (decide ((([] : List Aff).length + x3.1.length) * 72 ≤ q1r)) (some (x5.1, x5.2.1, true, (([] : List Aff) ++ x3.1))) (none)) (some x5)) := by kernel_rfl
abbrev q0j.e (k : Nat) : FuncId × CE := (94, ⟨q0j.ps, q0j.rs, q0j.F k⟩)
theorem q0j.q (k : Nat) : Qs (q0j.e k) := qq (C := q0j.C) (fun k => .c (q1k.q k) <| .c (q2y.q k) <| .c (q13.q k) <| .nil) k
def q1u.C (k : Nat) : CEs := [q0o.e k, q23.e k]
abbrev q1u.ps : List Par := [⟨t39, .rd⟩]
abbrev q1u.rs : List Res := [⟨.str, .ro, false⟩]
def q1u.H : q3q := [(3, [(1, .ro), (3, .ro), (4, .ro)]), (7, [(1, .ro), (3, .ro), (5, .ro)])]
def q1u.F := q3t E q1u.C q1u.H Tryz.f96 q1u.ps q1u.rs
def q1u.L3 (k k1 : Nat) (x1 : Book) (x3 : ByteArray) (x4 : Int) : Option (ByteArray) := atL E q1u.C q1u.H Tryz.f96 q1u.ps q1u.rs [true, true, false, true, true] k [] k1 (sh 39 [(1, .box t39 x1 .ro none), (3, .d .str x3 .ro), (4, .d (.int .i64) x4 .ro)])
def q1u.L7 (k k1 : Nat) (x1 : Book) (x3 : ByteArray) (x5 : Int) : Option (ByteArray) := atL E q1u.C q1u.H Tryz.f96 q1u.ps q1u.rs [true, true, true, false, true, true] k [] k1 (sh 39 [(1, .box t39 x1 .ro none), (3, .d .str x3 .ro), (5, .d (.int .i64) x5 .ro)])
def q1u.f (k : Nat) (x0 : Book) : Option (ByteArray) := q1u.F k x0
theorem q1u.f_eq (k : Nat) (x0 : Book) : q1u.f k x0 = q1u.L3 k k x0 bz (0 : Int) := by kernel_rfl
theorem q1u.L3_eq (k k1 : Nat) (x1 : Book) (x3 : ByteArray) (x4 : Int) : q1u.L3 k (k1 + 1) x1 x3 x4 = ifb (decide (x4 < (x1.1.length : Int))) (ifb (decide (0 ≤ x4) && decide (x4 < (x1.1.length : Int))) ((q0o.f k1 (x1.1.getD x4.toNat zA)).bind fun (r0 : ByteArray) => ifb (q4m (x3.size + r0.size)) (ifb (q4m ((x3 ++ r0).size + (⟨#[10]⟩ : ByteArray).size)) (q1u.L3 k k1 x1 ((x3 ++ r0) ++ (⟨#[10]⟩ : ByteArray)) (w64 (x4 + 1))) (none)) (none)) (none)) (q1u.L7 k k x1 x3 (0 : Int)) := by kernel_rfl
theorem q1u.L7_eq (k k1 : Nat) (x1 : Book) (x3 : ByteArray) (x5 : Int) : q1u.L7 k (k1 + 1) x1 x3 x5 = ifb (decide (x5 < (x1.2.length : Int))) (ifb (decide (0 ≤ x5) && decide (x5 < (x1.2.length : Int))) ((q23.f k1 (x1.2.getD x5.toNat zE)).bind fun (r1 : ByteArray) => ifb (q4m (x3.size + r1.size)) (ifb (q4m ((x3 ++ r1).size + (⟨#[10]⟩ : ByteArray).size)) (q1u.L7 k k1 x1 ((x3 ++ r1) ++ (⟨#[10]⟩ : ByteArray)) (w64 (x5 + 1))) (none)) (none)) (none)) (some x3) := by kernel_rfl
abbrev q1u.e (k : Nat) : FuncId × CE := (96, ⟨q1u.ps, q1u.rs, q1u.F k⟩)
theorem q1u.q (k : Nat) : Qs (q1u.e k) := qq (C := q1u.C) (fun k => .c (q0o.q k) <| .c (q23.q k) <| .nil) k
def q0n.C (k : Nat) : CEs := []
abbrev q0n.ps : List Par := [⟨.str, .rd⟩]
abbrev q0n.rs : List Res := [⟨t34, (.own .ro), false⟩]
def q0n.H : q3q := [(2, [(0, .ro), (3, (.own .ro))]), (6, [(3, (.own .ro)), (4, .ro), (5, .ro)])]
def q0n.F := q3t E q0n.C q0n.H Tryz.f212 q0n.ps q0n.rs
def q0n.L2 (k k1 : Nat) (x0 : ByteArray) (x3 : List Int) : Option (List Int) := atL E q0n.C q0n.H Tryz.f212 q0n.ps q0n.rs [true, true, false, true] k [] k1 (sh 33 [(0, .d .str x0 .ro), (3, .d t34 x3 (.own .ro))])
def q0n.L6 (k k1 : Nat) (x3 : List Int) (x4 : Int) (x5 : Int) : Option (List Int) := atL E q0n.C q0n.H Tryz.f212 q0n.ps q0n.rs [true, true, true, true, false, true, true] k [] k1 (sh 33 [(3, .d t34 x3 (.own .ro)), (4, .d (.int .i64) x4 .ro), (5, .d (.int .i64) x5 .ro)])
def q0n.f (k : Nat) (x0 : ByteArray) : Option (List Int) := q0n.F k x0
theorem q0n.f_eq (k : Nat) (x0 : ByteArray) : q0n.f k x0 = ifb (decide (((bytesOf x0).length + [(128 : Int)].length) * 1 ≤ q1r)) (q0n.L2 k k x0 ((bytesOf x0) ++ [(128 : Int)])) (none) := by kernel_rfl
theorem q0n.L2_eq (k k1 : Nat) (x0 : ByteArray) (x3 : List Int) : q0n.L2 k (k1 + 1) x0 x3 = ifb (decide ((64 : Int) ≠ 0)) (ifb (((x3.length : Int).tmod (64 : Int)) != (56 : Int)) (ifb (decide ((x3.length + [(0 : Int)].length) * 1 ≤ q1r)) (q0n.L2 k k1 x0 (x3 ++ [(0 : Int)])) (none)) (q0n.L6 k k x3 (w64 ((x0.size : Int) * (8 : Int))) (7 : Int))) (none) := by kernel_rfl
theorem q0n.L6_eq (k k1 : Nat) (x3 : List Int) (x4 : Int) (x5 : Int) : q0n.L6 k (k1 + 1) x3 x4 x5 = ifb (decide (x5 ≥ (0 : Int))) (ifb (decide (0 ≤ (w64 ((8 : Int) * x5)))) (ifb (decide ((x3.length + [(IntKind.u8.wrap (x4.fdiv (2 ^ (min (w64 ((8 : Int) * x5)).toNat 64))))].length) * 1 ≤ q1r)) (q0n.L6 k k1 (x3 ++ [(IntKind.u8.wrap (x4.fdiv (2 ^ (min (w64 ((8 : Int) * x5)).toNat 64))))]) x4 (w64 (x5 - 1))) (none)) (none)) (some x3) := by kernel_rfl
abbrev q0n.e (k : Nat) : FuncId × CE := (212, ⟨q0n.ps, q0n.rs, q0n.F k⟩)
theorem q0n.q (k : Nat) : Qs (q0n.e k) := qq (C := q0n.C) (fun k => .nil) k
def q2g.C (k : Nat) : CEs := []
abbrev q2g.ps : List Par := [⟨(.int .u32), .rd⟩, ⟨(.int .i64), .rd⟩]
abbrev q2g.rs : List Res := [⟨(.int .u32), .ro, false⟩]
def q2g.F := q3t E q2g.C [] Tryz.f256 q2g.ps q2g.rs
def q2g.f (k : Nat) (x0 : Int) (x1 : Int) : Option (Int) := q2g.F k (x0, x1)
theorem q2g.f_eq (k : Nat) (x0 : Int) (x1 : Int) : q2g.f k x0 x1 = ifb (decide (0 ≤ x1)) (ifb (decide (0 ≤ (w64 ((32 : Int) - x1)))) (some (IntKind.u32.wrap ((BitVec.ofInt 32 (x0.fdiv (2 ^ (min x1.toNat 32))) ||| BitVec.ofInt 32 (IntKind.u32.wrap (x0 * 2 ^ (min (w64 ((32 : Int) - x1)).toNat 32)))).toNat))) (none)) (none) := by kernel_rfl
abbrev q2g.e (k : Nat) : FuncId × CE := (256, ⟨q2g.ps, q2g.rs, q2g.F k⟩)
theorem q2g.q (k : Nat) : Qs (q2g.e k) := qq (C := q2g.C) (fun k => .nil) k
def q0d.C (k : Nat) : CEs := [q2g.e k]
abbrev q0d.ps : List Par := [⟨t34, .rd⟩]
abbrev q0d.rs : List Res := [⟨q86, (.own .ro), false⟩]
def q0d.H : q3q := [(3, [(0, .ro), (3, (.own .ro)), (4, .ro)]), (4, [(0, .ro), (3, (.own .ro)), (4, .ro)]), (7, [(3, (.own .ro)), (5, .ro)]), (8, [(3, (.own .ro)), (5, .ro)])]
def q0d.F := q3t E q0d.C q0d.H Tryz.f254 q0d.ps q0d.rs
def q0d.L3 (k k1 : Nat) (x0 : List Int) (x3 : List Int) (x4 : Int) : Option (List Int) := atL E q0d.C q0d.H Tryz.f254 q0d.ps q0d.rs [true, true, false, true, true] k [] k1 (sh 100 [(0, .d t34 x0 .ro), (3, .d q86 x3 (.own .ro)), (4, .d (.int .i64) x4 .ro)])
def q0d.J4 (k k1 k2 : Nat) (x0 : List Int) (x3 : List Int) (x4 : Int) : Option (List Int) := atJ E q0d.C q0d.H Tryz.f254 q0d.ps q0d.rs [true, true, false, true, true, true, true, true] k [k1] k2 (sh 100 [(0, .d t34 x0 .ro), (3, .d q86 x3 (.own .ro)), (4, .d (.int .i64) x4 .ro)])
def q0d.L7 (k k1 : Nat) (x3 : List Int) (x5 : Int) : Option (List Int) := atL E q0d.C q0d.H Tryz.f254 q0d.ps q0d.rs [true, true, true, false, true, true] k [] k1 (sh 100 [(3, .d q86 x3 (.own .ro)), (5, .d (.int .i64) x5 .ro)])
def q0d.J8 (k k1 k2 : Nat) (x3 : List Int) (x5 : Int) : Option (List Int) := atJ E q0d.C q0d.H Tryz.f254 q0d.ps q0d.rs [true, true, true, false, true, true, true, true, true] k [k1] k2 (sh 100 [(3, .d q86 x3 (.own .ro)), (5, .d (.int .i64) x5 .ro)])
def q0d.f (k : Nat) (x0 : List Int) : Option (List Int) := q0d.F k x0
theorem q0d.f_eq (k : Nat) (x0 : List Int) : q0d.f k x0 = ifb (decide (0 ≤ (0 : Int)) && (decide ((0 : Int) ≤ (64 : Int)) && decide ((64 : Int) * 4 ≤ (q1r : Int)))) (q0d.L3 k k x0 (List.replicate (0 : Int).toNat (0 : Int)) (0 : Int)) (none) := by kernel_rfl
theorem q0d.L3_eq (k k1 : Nat) (x0 : List Int) (x3 : List Int) (x4 : Int) : q0d.L3 k (k1 + 1) x0 x3 x4 = ifb (decide (x4 < (16 : Int))) (ifb (decide (0 ≤ (w64 ((4 : Int) * x4))) && decide ((w64 ((4 : Int) * x4)) < (x0.length : Int))) (ifb (decide (0 ≤ (24 : Int))) (ifb (decide (0 ≤ (w64 ((w64 ((4 : Int) * x4)) + 1))) && decide ((w64 ((w64 ((4 : Int) * x4)) + 1)) < (x0.length : Int))) (ifb (decide (0 ≤ (16 : Int))) (ifb (decide (0 ≤ (w64 ((w64 ((4 : Int) * x4)) + (2 : Int)))) && decide ((w64 ((w64 ((4 : Int) * x4)) + (2 : Int))) < (x0.length : Int))) (ifb (decide (0 ≤ (8 : Int))) (ifb (decide (0 ≤ (w64 ((w64 ((4 : Int) * x4)) + (3 : Int)))) && decide ((w64 ((w64 ((4 : Int) * x4)) + (3 : Int))) < (x0.length : Int))) (ifb (decide ((x3.length + [(IntKind.u32.wrap ((BitVec.ofInt 32 (IntKind.u32.wrap ((BitVec.ofInt 32 (IntKind.u32.wrap ((BitVec.ofInt 32 (IntKind.u32.wrap ((IntKind.u32.wrap (x0.getD ((w64 ((4 : Int) * x4)).toNat) (0 : Int))) * 2 ^ (min (24 : Int).toNat 32))) ||| BitVec.ofInt 32 (IntKind.u32.wrap ((IntKind.u32.wrap (x0.getD ((w64 ((w64 ((4 : Int) * x4)) + 1)).toNat) (0 : Int))) * 2 ^ (min (16 : Int).toNat 32)))).toNat)) ||| BitVec.ofInt 32 (IntKind.u32.wrap ((IntKind.u32.wrap (x0.getD ((w64 ((w64 ((4 : Int) * x4)) + (2 : Int))).toNat) (0 : Int))) * 2 ^ (min (8 : Int).toNat 32)))).toNat)) ||| BitVec.ofInt 32 (IntKind.u32.wrap (x0.getD ((w64 ((w64 ((4 : Int) * x4)) + (3 : Int))).toNat) (0 : Int)))).toNat))].length) * 4 ≤ q1r)) (q0d.J4 k k1 k1 x0 (x3 ++ [(IntKind.u32.wrap ((BitVec.ofInt 32 (IntKind.u32.wrap ((BitVec.ofInt 32 (IntKind.u32.wrap ((BitVec.ofInt 32 (IntKind.u32.wrap ((IntKind.u32.wrap (x0.getD ((w64 ((4 : Int) * x4)).toNat) (0 : Int))) * 2 ^ (min (24 : Int).toNat 32))) ||| BitVec.ofInt 32 (IntKind.u32.wrap ((IntKind.u32.wrap (x0.getD ((w64 ((w64 ((4 : Int) * x4)) + 1)).toNat) (0 : Int))) * 2 ^ (min (16 : Int).toNat 32)))).toNat)) ||| BitVec.ofInt 32 (IntKind.u32.wrap ((IntKind.u32.wrap (x0.getD ((w64 ((w64 ((4 : Int) * x4)) + (2 : Int))).toNat) (0 : Int))) * 2 ^ (min (8 : Int).toNat 32)))).toNat)) ||| BitVec.ofInt 32 (IntKind.u32.wrap (x0.getD ((w64 ((w64 ((4 : Int) * x4)) + (3 : Int))).toNat) (0 : Int)))).toNat))]) x4) (none)) (none)) (none)) (none)) (none)) (none)) (none)) (none)) (q0d.L7 k k x3 (16 : Int)) := by kernel_rfl
theorem q0d.J4_eq (k k1 k2 : Nat) (x0 : List Int) (x3 : List Int) (x4 : Int) : q0d.J4 k k1 (k2 + 1) x0 x3 x4 = q0d.L3 k k1 x0 x3 (w64 (x4 + 1)) := by kernel_rfl
theorem q0d.L7_eq (k k1 : Nat) (x3 : List Int) (x5 : Int) : q0d.L7 k (k1 + 1) x3 x5 = ifb (decide (x5 < (64 : Int))) (ifb (decide (0 ≤ (w64 (x5 - (15 : Int)))) && decide ((w64 (x5 - (15 : Int))) < (x3.length : Int))) (ifb (decide (0 ≤ (w64 (x5 - (2 : Int)))) && decide ((w64 (x5 - (2 : Int))) < (x3.length : Int))) ((q2g.f k1 (x3.getD ((w64 (x5 - (15 : Int))).toNat) (0 : Int)) (7 : Int)).bind fun (r0 : Int) => (q2g.f k1 (x3.getD ((w64 (x5 - (15 : Int))).toNat) (0 : Int)) (18 : Int)).bind fun (r1 : Int) => ifb (decide (0 ≤ (3 : Int))) ((q2g.f k1 (x3.getD ((w64 (x5 - (2 : Int))).toNat) (0 : Int)) (17 : Int)).bind fun (r2 : Int) => (q2g.f k1 (x3.getD ((w64 (x5 - (2 : Int))).toNat) (0 : Int)) (19 : Int)).bind fun (r3 : Int) => ifb (decide (0 ≤ (10 : Int))) (ifb (decide (0 ≤ (w64 (x5 - (16 : Int)))) && decide ((w64 (x5 - (16 : Int))) < (x3.length : Int))) (ifb (decide (0 ≤ (w64 (x5 - (7 : Int)))) && decide ((w64 (x5 - (7 : Int))) < (x3.length : Int))) (ifb (decide ((x3.length + [(IntKind.u32.wrap ((IntKind.u32.wrap ((IntKind.u32.wrap ((x3.getD ((w64 (x5 - (16 : Int))).toNat) (0 : Int)) + (IntKind.u32.wrap ((BitVec.ofInt 32 (IntKind.u32.wrap ((BitVec.ofInt 32 r0 ^^^ BitVec.ofInt 32 r1).toNat)) ^^^ BitVec.ofInt 32 ((x3.getD ((w64 (x5 - (15 : Int))).toNat) (0 : Int)).fdiv (2 ^ (min (3 : Int).toNat 32)))).toNat)))) + (x3.getD ((w64 (x5 - (7 : Int))).toNat) (0 : Int)))) + (IntKind.u32.wrap ((BitVec.ofInt 32 (IntKind.u32.wrap ((BitVec.ofInt 32 r2 ^^^ BitVec.ofInt 32 r3).toNat)) ^^^ BitVec.ofInt 32 ((x3.getD ((w64 (x5 - (2 : Int))).toNat) (0 : Int)).fdiv (2 ^ (min (10 : Int).toNat 32)))).toNat))))].length) * 4 ≤ q1r)) (q0d.J8 k k1 k1 (x3 ++ [(IntKind.u32.wrap ((IntKind.u32.wrap ((IntKind.u32.wrap ((x3.getD ((w64 (x5 - (16 : Int))).toNat) (0 : Int)) + (IntKind.u32.wrap ((BitVec.ofInt 32 (IntKind.u32.wrap ((BitVec.ofInt 32 r0 ^^^ BitVec.ofInt 32 r1).toNat)) ^^^ BitVec.ofInt 32 ((x3.getD ((w64 (x5 - (15 : Int))).toNat) (0 : Int)).fdiv (2 ^ (min (3 : Int).toNat 32)))).toNat)))) + (x3.getD ((w64 (x5 - (7 : Int))).toNat) (0 : Int)))) + (IntKind.u32.wrap ((BitVec.ofInt 32 (IntKind.u32.wrap ((BitVec.ofInt 32 r2 ^^^ BitVec.ofInt 32 r3).toNat)) ^^^ BitVec.ofInt 32 ((x3.getD ((w64 (x5 - (2 : Int))).toNat) (0 : Int)).fdiv (2 ^ (min (10 : Int).toNat 32)))).toNat))))]) x5) (none)) (none)) (none)) (none)) (none)) (none)) (none)) (some x3) := by kernel_rfl
theorem q0d.J8_eq (k k1 k2 : Nat) (x3 : List Int) (x5 : Int) : q0d.J8 k k1 (k2 + 1) x3 x5 = q0d.L7 k k1 x3 (w64 (x5 + 1)) := by kernel_rfl
abbrev q0d.e (k : Nat) : FuncId × CE := (254, ⟨q0d.ps, q0d.rs, q0d.F k⟩)
theorem q0d.q (k : Nat) : Qs (q0d.e k) := qq (C := q0d.C) (fun k => .c (q2g.q k) <| .nil) k
def q31.C (k : Nat) : CEs := []
abbrev q31.ps : List Par := []
abbrev q31.rs : List Res := [⟨q86, (.own .ro), false⟩]
def q31.F := q3t E q31.C [] Tryz.f255 q31.ps q31.rs
def q31.f (k : Nat) : Option (List Int) := q31.F k ()
theorem q31.f_eq (k : Nat) : q31.f k = some [(1116352408 : Int), (1899447441 : Int), (3049323471 : Int), (3921009573 : Int), (961987163 : Int), (1508970993 : Int), (2453635748 : Int), (2870763221 : Int), (3624381080 : Int), (310598401 : Int), (607225278 : Int), (1426881987 : Int), (1925078388 : Int), (2162078206 : Int), (2614888103 : Int), (3248222580 : Int), (3835390401 : Int), (4022224774 : Int), (264347078 : Int), (604807628 : Int), (770255983 : Int), (1249150122 : Int), (1555081692 : Int), (1996064986 : Int), (2554220882 : Int), (2821834349 : Int), (2952996808 : Int), (3210313671 : Int), (3336571891 : Int), (3584528711 : Int), (113926993 : Int), (338241895 : Int), (666307205 : Int), (773529912 : Int), (1294757372 : Int), (1396182291 : Int), (1695183700 : Int), (1986661051 : Int), (2177026350 : Int), (2456956037 : Int), (2730485921 : Int), (2820302411 : Int), (3259730800 : Int), (3345764771 : Int), (3516065817 : Int), (3600352804 : Int), (4094571909 : Int), (275423344 : Int), (430227734 : Int), (506948616 : Int), (659060556 : Int), (883997877 : Int), (958139571 : Int), (1322822218 : Int), (1537002063 : Int), (1747873779 : Int), (1955562222 : Int), (2024104815 : Int), (2227730452 : Int), (2361852424 : Int), (2428436474 : Int), (2756734187 : Int), (3204031479 : Int), (3329325298 : Int)] := by kernel_rfl
abbrev q31.e (k : Nat) : FuncId × CE := (255, ⟨q31.ps, q31.rs, q31.F k⟩)
theorem q31.q (k : Nat) : Qs (q31.e k) := qq (C := q31.C) (fun k => .nil) k
def q03.C (k : Nat) : CEs := [q2g.e k, q0d.e k, q31.e k]
abbrev q03.ps : List Par := [⟨q86, .rd⟩, ⟨t34, .rd⟩]
abbrev q03.rs : List Res := [⟨q86, (.own .ro), false⟩]
def q03.H : q3q := [(5, [(0, .ro), (5, (.own .ro)), (6, (.own .ro)), (7, (.own .ro)), (8, .ro)]), (10, [(0, .ro), (5, (.own .ro)), (6, (.own .ro)), (7, (.own .ro)), (8, .ro), (11, .ro)]), (20, [(0, .ro), (7, (.own .ro)), (15, (.own .ro)), (16, .ro)]), (12, [(0, .ro), (5, (.own .ro)), (6, (.own .ro)), (7, (.own .ro)), (8, .ro), (11, .ro), (12, .ro), (13, .ro)]), (13, [(0, .ro), (5, (.own .ro)), (6, (.own .ro)), (7, (.own .ro)), (8, .ro), (11, .ro), (12, .ro), (13, .ro), (14, .ro)]), (6, [(0, .ro), (5, (.own .ro)), (6, (.own .ro)), (7, (.own .ro)), (8, .ro)])]
def q03.F := q3t E q03.C q03.H Tryz.f213 q03.ps q03.rs
def q03.L5 (k k1 : Nat) (x0 : List Int) (x5 : List Int) (x6 : List Int) (x7 : List Int) (x8 : Int) : Option (List Int) := atL E q03.C q03.H Tryz.f213 q03.ps q03.rs [true, true, true, true, false, true, true] k [] k1 (sh 155 [(0, .d q86 x0 .ro), (5, .d q86 x5 (.own .ro)), (6, .d q86 x6 (.own .ro)), (7, .d q86 x7 (.own .ro)), (8, .d (.int .i64) x8 .ro)])
def q03.J10 (k k1 k2 : Nat) (x0 : List Int) (x5 : List Int) (x6 : List Int) (x7 : List Int) (x8 : Int) (x11 : Int) : Option (List Int) := atJ E q03.C q03.H Tryz.f213 q03.ps q03.rs [true, true, true, true, false, true, true, true, true, false, true, true, true, true] k [k1] k2 (sh 155 [(0, .d q86 x0 .ro), (5, .d q86 x5 (.own .ro)), (6, .d q86 x6 (.own .ro)), (7, .d q86 x7 (.own .ro)), (8, .d (.int .i64) x8 .ro), (11, .d (.int .u32) x11 .ro)])
def q03.L20 (k k1 : Nat) (x0 : List Int) (x7 : List Int) (x15 : List Int) (x16 : Int) : Option (List Int) := atL E q03.C q03.H Tryz.f213 q03.ps q03.rs [true, true, true, true, true, true, false, true, true] k [] k1 (sh 155 [(0, .d q86 x0 .ro), (7, .d q86 x7 (.own .ro)), (15, .d q86 x15 (.own .ro)), (16, .d (.int .i64) x16 .ro)])
def q03.J12 (k k1 k2 : Nat) (x0 : List Int) (x5 : List Int) (x6 : List Int) (x7 : List Int) (x8 : Int) (x11 : Int) (x12 : Int) (x13 : Int) : Option (List Int) := atJ E q03.C q03.H Tryz.f213 q03.ps q03.rs [true, true, true, true, false, true, true, true, true, false, true, true, true, true, true, true] k [k1, 0] k2 (sh 155 [(0, .d q86 x0 .ro), (5, .d q86 x5 (.own .ro)), (6, .d q86 x6 (.own .ro)), (7, .d q86 x7 (.own .ro)), (8, .d (.int .i64) x8 .ro), (11, .d (.int .u32) x11 .ro), (12, .d (.int .u32) x12 .ro), (13, .d (.int .u32) x13 .ro)])
def q03.L13 (k k1 k2 k3 : Nat) (x0 : List Int) (x5 : List Int) (x6 : List Int) (x7 : List Int) (x8 : Int) (x11 : Int) (x12 : Int) (x13 : Int) (x14 : Int) : Option (List Int) := atL E q03.C q03.H Tryz.f213 q03.ps q03.rs [true, true, true, true, false, true, true, true, true, false, true, true, true, true, true, true, false, true, true] k [k1, 0, k2] k3 (sh 155 [(0, .d q86 x0 .ro), (5, .d q86 x5 (.own .ro)), (6, .d q86 x6 (.own .ro)), (7, .d q86 x7 (.own .ro)), (8, .d (.int .i64) x8 .ro), (11, .d (.int .u32) x11 .ro), (12, .d (.int .u32) x12 .ro), (13, .d (.int .u32) x13 .ro), (14, .d (.int .i64) x14 .ro)])
def q03.J6 (k k1 k2 : Nat) (x0 : List Int) (x5 : List Int) (x6 : List Int) (x7 : List Int) (x8 : Int) : Option (List Int) := atJ E q03.C q03.H Tryz.f213 q03.ps q03.rs [true, true, true, true, false, true, true, true, true, true] k [k1] k2 (sh 155 [(0, .d q86 x0 .ro), (5, .d q86 x5 (.own .ro)), (6, .d q86 x6 (.own .ro)), (7, .d q86 x7 (.own .ro)), (8, .d (.int .i64) x8 .ro)])
def q03.f (k : Nat) (x0 : List Int) (x1 : List Int) : Option (List Int) := q03.F k (x0, x1)
theorem q03.f_eq (k : Nat) (x0 : List Int) (x1 : List Int) : q03.f k x0 x1 = (q0d.f k x1).bind fun (r0 : List Int) => (q31.f k).bind fun (r1 : List Int) => ifb (decide ((([] : List Int).length + x0.length) * 4 ≤ q1r)) (q03.L5 k k x0 r0 r1 (([] : List Int) ++ x0) (0 : Int)) (none) := by kernel_rfl
theorem q03.L5_eq (k k1 : Nat) (x0 : List Int) (x5 : List Int) (x6 : List Int) (x7 : List Int) (x8 : Int) : q03.L5 k (k1 + 1) x0 x5 x6 x7 x8 = ifb (decide (x8 < (64 : Int))) (ifb (decide (0 ≤ (4 : Int)) && decide ((4 : Int) < (x7.length : Int))) ((q2g.f k1 (x7.getD ((4 : Int).toNat) (0 : Int)) (6 : Int)).bind fun (r2 : Int) => ifb (decide (0 ≤ (4 : Int)) && decide ((4 : Int) < (x7.length : Int))) ((q2g.f k1 (x7.getD ((4 : Int).toNat) (0 : Int)) (11 : Int)).bind fun (r3 : Int) => ifb (decide (0 ≤ (4 : Int)) && decide ((4 : Int) < (x7.length : Int))) ((q2g.f k1 (x7.getD ((4 : Int).toNat) (0 : Int)) (25 : Int)).bind fun (r4 : Int) => ifb (decide (0 ≤ (4 : Int)) && decide ((4 : Int) < (x7.length : Int))) (ifb (decide (0 ≤ (5 : Int)) && decide ((5 : Int) < (x7.length : Int))) (ifb (decide (0 ≤ (4 : Int)) && decide ((4 : Int) < (x7.length : Int))) (ifb (decide (0 ≤ (6 : Int)) && decide ((6 : Int) < (x7.length : Int))) (ifb (decide (0 ≤ (7 : Int)) && decide ((7 : Int) < (x7.length : Int))) (ifb (decide (0 ≤ x8) && decide (x8 < (x6.length : Int))) (ifb (decide (0 ≤ x8) && decide (x8 < (x5.length : Int))) (q03.J10 k k1 k1 x0 x5 x6 x7 x8 (IntKind.u32.wrap ((IntKind.u32.wrap ((IntKind.u32.wrap ((IntKind.u32.wrap ((x7.getD ((7 : Int).toNat) (0 : Int)) + (IntKind.u32.wrap ((BitVec.ofInt 32 (IntKind.u32.wrap ((BitVec.ofInt 32 r2 ^^^ BitVec.ofInt 32 r3).toNat)) ^^^ BitVec.ofInt 32 r4).toNat)))) + (IntKind.u32.wrap ((BitVec.ofInt 32 (IntKind.u32.wrap ((BitVec.ofInt 32 (x7.getD ((4 : Int).toNat) (0 : Int)) &&& BitVec.ofInt 32 (x7.getD ((5 : Int).toNat) (0 : Int))).toNat)) ^^^ BitVec.ofInt 32 (IntKind.u32.wrap ((BitVec.ofInt 32 (cpl .u32 (x7.getD ((4 : Int).toNat) (0 : Int))) &&& BitVec.ofInt 32 (x7.getD ((6 : Int).toNat) (0 : Int))).toNat))).toNat)))) + (x6.getD x8.toNat (0 : Int)))) + (x5.getD x8.toNat (0 : Int))))) (none)) (none)) (none)) (none)) (none)) (none)) (none)) (none)) (none)) (none)) (q03.L20 k k x0 x7 ([] : List Int) (0 : Int)) := by kernel_rfl
theorem q03.J10_eq (k k1 k2 : Nat) (x0 : List Int) (x5 : List Int) (x6 : List Int) (x7 : List Int) (x8 : Int) (x11 : Int) : q03.J10 k k1 (k2 + 1) x0 x5 x6 x7 x8 x11 = ifb (decide (0 ≤ (0 : Int)) && decide ((0 : Int) < (x7.length : Int))) ((q2g.f k2 (x7.getD ((0 : Int).toNat) (0 : Int)) (2 : Int)).bind fun (r5 : Int) => ifb (decide (0 ≤ (0 : Int)) && decide ((0 : Int) < (x7.length : Int))) ((q2g.f k2 (x7.getD ((0 : Int).toNat) (0 : Int)) (13 : Int)).bind fun (r6 : Int) => ifb (decide (0 ≤ (0 : Int)) && decide ((0 : Int) < (x7.length : Int))) ((q2g.f k2 (x7.getD ((0 : Int).toNat) (0 : Int)) (22 : Int)).bind fun (r7 : Int) => ifb (decide (0 ≤ (0 : Int)) && decide ((0 : Int) < (x7.length : Int))) (ifb (decide (0 ≤ (1 : Int)) && decide ((1 : Int) < (x7.length : Int))) (ifb (decide (0 ≤ (0 : Int)) && decide ((0 : Int) < (x7.length : Int))) (ifb (decide (0 ≤ (2 : Int)) && decide ((2 : Int) < (x7.length : Int))) (ifb (decide (0 ≤ (1 : Int)) && decide ((1 : Int) < (x7.length : Int))) (ifb (decide (0 ≤ (2 : Int)) && decide ((2 : Int) < (x7.length : Int))) (q03.J12 k k1 k2 x0 x5 x6 x7 x8 x11 (IntKind.u32.wrap ((BitVec.ofInt 32 (IntKind.u32.wrap ((BitVec.ofInt 32 r5 ^^^ BitVec.ofInt 32 r6).toNat)) ^^^ BitVec.ofInt 32 r7).toNat)) (IntKind.u32.wrap ((BitVec.ofInt 32 (IntKind.u32.wrap ((BitVec.ofInt 32 (IntKind.u32.wrap ((BitVec.ofInt 32 (x7.getD ((0 : Int).toNat) (0 : Int)) &&& BitVec.ofInt 32 (x7.getD ((1 : Int).toNat) (0 : Int))).toNat)) ^^^ BitVec.ofInt 32 (IntKind.u32.wrap ((BitVec.ofInt 32 (x7.getD ((0 : Int).toNat) (0 : Int)) &&& BitVec.ofInt 32 (x7.getD ((2 : Int).toNat) (0 : Int))).toNat))).toNat)) ^^^ BitVec.ofInt 32 (IntKind.u32.wrap ((BitVec.ofInt 32 (x7.getD ((1 : Int).toNat) (0 : Int)) &&& BitVec.ofInt 32 (x7.getD ((2 : Int).toNat) (0 : Int))).toNat))).toNat))) (none)) (none)) (none)) (none)) (none)) (none)) (none)) (none)) (none) := by kernel_rfl
theorem q03.L20_eq (k k1 : Nat) (x0 : List Int) (x7 : List Int) (x15 : List Int) (x16 : Int) : q03.L20 k (k1 + 1) x0 x7 x15 x16 = ifb (decide (x16 < (8 : Int))) (ifb (decide (0 ≤ x16) && decide (x16 < (x0.length : Int))) (ifb (decide (0 ≤ x16) && decide (x16 < (x7.length : Int))) (ifb (decide ((x15.length + [(IntKind.u32.wrap ((x0.getD x16.toNat (0 : Int)) + (x7.getD x16.toNat (0 : Int))))].length) * 4 ≤ q1r)) (q03.L20 k k1 x0 x7 (x15 ++ [(IntKind.u32.wrap ((x0.getD x16.toNat (0 : Int)) + (x7.getD x16.toNat (0 : Int))))]) (w64 (x16 + 1))) (none)) (none)) (none)) (some x15) := by kernel_rfl
theorem q03.J12_eq (k k1 k2 : Nat) (x0 : List Int) (x5 : List Int) (x6 : List Int) (x7 : List Int) (x8 : Int) (x11 : Int) (x12 : Int) (x13 : Int) : q03.J12 k k1 (k2 + 1) x0 x5 x6 x7 x8 x11 x12 x13 = q03.L13 k k1 k2 k2 x0 x5 x6 x7 x8 x11 x12 x13 (7 : Int) := by kernel_rfl
theorem q03.L13_eq (k k1 k2 k3 : Nat) (x0 : List Int) (x5 : List Int) (x6 : List Int) (x7 : List Int) (x8 : Int) (x11 : Int) (x12 : Int) (x13 : Int) (x14 : Int) : q03.L13 k k1 k2 (k3 + 1) x0 x5 x6 x7 x8 x11 x12 x13 x14 = ifb (decide (x14 > 0)) (ifb (decide (0 ≤ (w64 (x14 - 1))) && decide ((w64 (x14 - 1)) < (x7.length : Int))) (ifb (decide (0 ≤ x14) && decide (x14 < (x7.length : Int))) (q03.L13 k k1 k2 k3 x0 x5 x6 (x7.set x14.toNat (x7.getD ((w64 (x14 - 1)).toNat) (0 : Int))) x8 x11 x12 x13 (w64 (x14 - 1))) (none)) (none)) (ifb (decide (0 ≤ (4 : Int)) && decide ((4 : Int) < (x7.length : Int))) (ifb (decide (0 ≤ (4 : Int)) && decide ((4 : Int) < (x7.length : Int))) (ifb (decide (0 ≤ (0 : Int)) && decide ((0 : Int) < ((x7.set ((4 : Int).toNat) (IntKind.u32.wrap ((x7.getD ((4 : Int).toNat) (0 : Int)) + x11))).length : Int))) (q03.J6 k k1 k1 x0 x5 x6 ((x7.set ((4 : Int).toNat) (IntKind.u32.wrap ((x7.getD ((4 : Int).toNat) (0 : Int)) + x11))).set ((0 : Int).toNat) (IntKind.u32.wrap ((IntKind.u32.wrap (x11 + x12)) + x13))) x8) (none)) (none)) (none)) := by kernel_rfl
theorem q03.J6_eq (k k1 k2 : Nat) (x0 : List Int) (x5 : List Int) (x6 : List Int) (x7 : List Int) (x8 : Int) : q03.J6 k k1 (k2 + 1) x0 x5 x6 x7 x8 = q03.L5 k k1 x0 x5 x6 x7 (w64 (x8 + 1)) := by kernel_rfl
abbrev q03.e (k : Nat) : FuncId × CE := (213, ⟨q03.ps, q03.rs, q03.F k⟩)
theorem q03.q (k : Nat) : Qs (q03.e k) := qq (C := q03.C) (fun k => .c (q2g.q k) <| .c (q0d.q k) <| .c (q31.q k) <| .nil) k
def q1d.C (k : Nat) : CEs := [q0n.e k, q03.e k]
abbrev q1d.ps : List Par := [⟨.str, .rd⟩]
abbrev q1d.rs : List Res := [⟨.str, .ro, false⟩]
def q1d.H : q3q := [(4, [(3, (.own .ro)), (4, (.own .ro)), (5, .ro)]), (9, [(3, (.own .ro)), (6, (.own .ro)), (7, .ro)])]
def q1d.F := q3t E q1d.C q1d.H Tryz.f160 q1d.ps q1d.rs
def q1d.L4 (k k1 : Nat) (x3 : List Int) (x4 : List Int) (x5 : Int) : Option (ByteArray) := atL E q1d.C q1d.H Tryz.f160 q1d.ps q1d.rs [true, true, true, false, true, true] k [] k1 (sh 57 [(3, .d q86 x3 (.own .ro)), (4, .d t34 x4 (.own .ro)), (5, .d (.int .i64) x5 .ro)])
def q1d.L9 (k k1 : Nat) (x3 : List Int) (x6 : List Int) (x7 : Int) : Option (ByteArray) := atL E q1d.C q1d.H Tryz.f160 q1d.ps q1d.rs [true, true, true, true, true, false, true, true] k [] k1 (sh 57 [(3, .d q86 x3 (.own .ro)), (6, .d t34 x6 (.own .ro)), (7, .d (.int .i64) x7 .ro)])
def q1d.f (k : Nat) (x0 : ByteArray) : Option (ByteArray) := q1d.F k x0
theorem q1d.f_eq (k : Nat) (x0 : ByteArray) : q1d.f k x0 = (q0n.f k x0).bind fun (r0 : List Int) => q1d.L4 k k [(1779033703 : Int), (3144134277 : Int), (1013904242 : Int), (2773480762 : Int), (1359893119 : Int), (2600822924 : Int), (528734635 : Int), (1541459225 : Int)] r0 (0 : Int) := by kernel_rfl
theorem q1d.L4_eq (k k1 : Nat) (x3 : List Int) (x4 : List Int) (x5 : Int) : q1d.L4 k (k1 + 1) x3 x4 x5 = ifb (decide (x5 < (x4.length : Int))) (ifb (decide (0 ≤ x5) && (decide (x5 ≤ (w64 (x5 + (64 : Int)))) && decide ((w64 (x5 + (64 : Int))) ≤ (x4.length : Int)))) ((q03.f k1 x3 ((x4.take (w64 (x5 + (64 : Int))).toNat).drop x5.toNat)).bind fun (r1 : List Int) => q1d.L4 k k1 r1 x4 (w64 (x5 + (64 : Int)))) (none)) (q1d.L9 k k x3 ([] : List Int) (0 : Int)) := by kernel_rfl
theorem q1d.L9_eq (k k1 : Nat) (x3 : List Int) (x6 : List Int) (x7 : Int) : q1d.L9 k (k1 + 1) x3 x6 x7 = ifb (decide (x7 < (8 : Int))) (ifb (decide (0 ≤ x7) && decide (x7 < (x3.length : Int))) (ifb (decide (0 ≤ (24 : Int))) (ifb (decide (0 ≤ x7) && decide (x7 < (x3.length : Int))) (ifb (decide (0 ≤ (16 : Int))) (ifb (decide (0 ≤ x7) && decide (x7 < (x3.length : Int))) (ifb (decide (0 ≤ (8 : Int))) (ifb (decide (0 ≤ x7) && decide (x7 < (x3.length : Int))) (ifb (decide ((x6.length + [(IntKind.u8.wrap ((x3.getD x7.toNat (0 : Int)).fdiv (2 ^ (min (24 : Int).toNat 32)))), (IntKind.u8.wrap ((x3.getD x7.toNat (0 : Int)).fdiv (2 ^ (min (16 : Int).toNat 32)))), (IntKind.u8.wrap ((x3.getD x7.toNat (0 : Int)).fdiv (2 ^ (min (8 : Int).toNat 32)))), (IntKind.u8.wrap (x3.getD x7.toNat (0 : Int)))].length) * 1 ≤ q1r)) (q1d.L9 k k1 x3 (x6 ++ [(IntKind.u8.wrap ((x3.getD x7.toNat (0 : Int)).fdiv (2 ^ (min (24 : Int).toNat 32)))), (IntKind.u8.wrap ((x3.getD x7.toNat (0 : Int)).fdiv (2 ^ (min (16 : Int).toNat 32)))), (IntKind.u8.wrap ((x3.getD x7.toNat (0 : Int)).fdiv (2 ^ (min (8 : Int).toNat 32)))), (IntKind.u8.wrap (x3.getD x7.toNat (0 : Int)))]) (w64 (x7 + 1))) (none)) (none)) (none)) (none)) (none)) (none)) (none)) (none)) (some (strOf x6)) := by kernel_rfl
abbrev q1d.e (k : Nat) : FuncId × CE := (160, ⟨q1d.ps, q1d.rs, q1d.F k⟩)
theorem q1d.q (k : Nat) : Qs (q1d.e k) := qq (C := q1d.C) (fun k => .c (q0n.q k) <| .c (q03.q k) <| .nil) k
end
end Go.Proofs.YtjfkeknnjjlepaaGreatDoor.Rf
end

section
namespace Go.Proofs.YtjfkeknnjjlepaaGreatDoor.Rf
open Go Go.RowKit
set_option linter.unusedVariables false
noncomputable section
def q2c.C (k : Nat) : CEs := []
abbrev q2c.ps : List Par := [⟨.str, .rd⟩]
abbrev q2c.rs : List Res := [⟨.str, .ro, false⟩]
def q2c.H : q3q := [(4, [(0, .ro), (3, .ro), (4, (.own .ro)), (5, .ro)])]
def q2c.F := q3t E q2c.C q2c.H Tryz.f159 q2c.ps q2c.rs
def q2c.L4 (k k1 : Nat) (x0 : ByteArray) (x3 : ByteArray) (x4 : List Int) (x5 : Int) : Option (ByteArray) := atL E q2c.C q2c.H Tryz.f159 q2c.ps q2c.rs [true, true, true, false, true, true] k [] k1 (sh 30 [(0, .d .str x0 .ro), (3, .d .str x3 .ro), (4, .d t34 x4 (.own .ro)), (5, .d (.int .i64) x5 .ro)])
def q2c.f (k : Nat) (x0 : ByteArray) : Option (ByteArray) := q2c.F k x0
theorem q2c.f_eq (k : Nat) (x0 : ByteArray) : q2c.f k x0 = q2c.L4 k k x0 (⟨#[48, 49, 50, 51, 52, 53, 54, 55, 56, 57, 97, 98, 99, 100, 101, 102]⟩ : ByteArray) ([] : List Int) (0 : Int) := by kernel_rfl
theorem q2c.L4_eq (k k1 : Nat) (x0 : ByteArray) (x3 : ByteArray) (x4 : List Int) (x5 : Int) : q2c.L4 k (k1 + 1) x0 x3 x4 x5 = ifb (decide (x5 < (x0.size : Int))) (ifb (decide (0 ≤ x5) && decide (x5 < (x0.size : Int))) (ifb (decide ((16 : Int) ≠ 0)) (ifb (decide (0 ≤ (IntKind.u8.wrap ((q33 x0 x5).tdiv (16 : Int)))) && decide ((IntKind.u8.wrap ((q33 x0 x5).tdiv (16 : Int))) < (x3.size : Int))) (ifb (decide (0 ≤ x5) && decide (x5 < (x0.size : Int))) (ifb (decide ((16 : Int) ≠ 0)) (ifb (decide (0 ≤ ((q33 x0 x5).tmod (16 : Int))) && decide (((q33 x0 x5).tmod (16 : Int)) < (x3.size : Int))) (ifb (decide ((x4.length + [(q33 x3 (IntKind.u8.wrap ((q33 x0 x5).tdiv (16 : Int)))), (q33 x3 ((q33 x0 x5).tmod (16 : Int)))].length) * 1 ≤ q1r)) (q2c.L4 k k1 x0 x3 (x4 ++ [(q33 x3 (IntKind.u8.wrap ((q33 x0 x5).tdiv (16 : Int)))), (q33 x3 ((q33 x0 x5).tmod (16 : Int)))]) (w64 (x5 + 1))) (none)) (none)) (none)) (none)) (none)) (none)) (none)) (some (strOf x4)) := by kernel_rfl
abbrev q2c.e (k : Nat) : FuncId × CE := (159, ⟨q2c.ps, q2c.rs, q2c.F k⟩)
theorem q2c.q (k : Nat) : Qs (q2c.e k) := qq (C := q2c.C) (fun k => .nil) k
def q2s.C (k : Nat) : CEs := [q1d.e k, q2c.e k]
abbrev q2s.ps : List Par := [⟨.str, .rd⟩]
abbrev q2s.rs : List Res := [⟨.str, .ro, false⟩]
def q2s.F := q3t E q2s.C [] Tryz.f95 q2s.ps q2s.rs
def q2s.f (k : Nat) (x0 : ByteArray) : Option (ByteArray) := q2s.F k x0
theorem q2s.f_eq (k : Nat) (x0 : ByteArray) : q2s.f k x0 = (q1d.f k x0).bind fun (r0 : ByteArray) => (q2c.f k r0).bind fun (r1 : ByteArray) => some r1 := by kernel_rfl
abbrev q2s.e (k : Nat) : FuncId × CE := (95, ⟨q2s.ps, q2s.rs, q2s.F k⟩)
theorem q2s.q (k : Nat) : Qs (q2s.e k) := qq (C := q2s.C) (fun k => .c (q1d.q k) <| .c (q2c.q k) <| .nil) k
def q1q.C (k : Nat) : CEs := []
abbrev q1q.ps : List Par := [⟨.str, .rd⟩, ⟨(.int .u8), .rd⟩]
abbrev q1q.rs : List Res := [⟨.str, .ro, false⟩]
def q1q.H : q3q := [(3, [(0, .ro), (1, .ro), (5, (.own .ro)), (6, .ro)]), (8, [(0, .ro), (1, .ro), (5, (.own .ro)), (6, .ro), (7, .ro)])]
def q1q.F := q3t E q1q.C q1q.H Tryz.f163 q1q.ps q1q.rs
def q1q.L3 (k k1 : Nat) (x0 : ByteArray) (x1 : Int) (x5 : List Int) (x6 : Int) : Option (ByteArray) := atL E q1q.C q1q.H Tryz.f163 q1q.ps q1q.rs [true, true, false, true, true] k [] k1 (sh 28 [(0, .d .str x0 .ro), (1, .d (.int .u8) x1 .ro), (5, .d t34 x5 (.own .ro)), (6, .d (.int .i64) x6 .ro)])
def q1q.J8 (k k1 k2 : Nat) (x0 : ByteArray) (x1 : Int) (x5 : List Int) (x6 : Int) (x7 : Int) : Option (ByteArray) := atJ E q1q.C q1q.H Tryz.f163 q1q.ps q1q.rs [true, true, false, true, true, true, true, false, true, true, true] k [k1] k2 (sh 28 [(0, .d .str x0 .ro), (1, .d (.int .u8) x1 .ro), (5, .d t34 x5 (.own .ro)), (6, .d (.int .i64) x6 .ro), (7, .d (.int .u8) x7 .ro)])
def q1q.f (k : Nat) (x0 : ByteArray) (x1 : Int) : Option (ByteArray) := q1q.F k (x0, x1)
theorem q1q.f_eq (k : Nat) (x0 : ByteArray) (x1 : Int) : q1q.f k x0 x1 = q1q.L3 k k x0 x1 ([] : List Int) (0 : Int) := by kernel_rfl
theorem q1q.L3_eq (k k1 : Nat) (x0 : ByteArray) (x1 : Int) (x5 : List Int) (x6 : Int) : q1q.L3 k (k1 + 1) x0 x1 x5 x6 = ifb (decide (x6 < (64 : Int))) (ifb (decide (x6 < (x0.size : Int))) (ifb (decide (0 ≤ x6) && decide (x6 < (x0.size : Int))) (q1q.J8 k k1 k1 x0 x1 x5 x6 (q33 x0 x6)) (none)) (q1q.J8 k k1 k1 x0 x1 x5 x6 (0 : Int))) (some (strOf x5)) := by kernel_rfl
theorem q1q.J8_eq (k k1 k2 : Nat) (x0 : ByteArray) (x1 : Int) (x5 : List Int) (x6 : Int) (x7 : Int) : q1q.J8 k k1 (k2 + 1) x0 x1 x5 x6 x7 = ifb (decide ((x5.length + [(IntKind.u8.wrap ((BitVec.ofInt 8 x7 ^^^ BitVec.ofInt 8 x1).toNat))].length) * 1 ≤ q1r)) (q1q.L3 k k1 x0 x1 (x5 ++ [(IntKind.u8.wrap ((BitVec.ofInt 8 x7 ^^^ BitVec.ofInt 8 x1).toNat))]) (w64 (x6 + 1))) (none) := by kernel_rfl
abbrev q1q.e (k : Nat) : FuncId × CE := (163, ⟨q1q.ps, q1q.rs, q1q.F k⟩)
theorem q1q.q (k : Nat) : Qs (q1q.e k) := qq (C := q1q.C) (fun k => .nil) k
def q3h.C (k : Nat) : CEs := [q3m.e k, q1d.e k, q2c.e k, q1q.e k]
abbrev q3h.ps : List Par := [⟨.str, .rd⟩, ⟨.str, .rd⟩]
abbrev q3h.rs : List Res := [⟨.str, .ro, false⟩]
def q3h.F := q3t E q3h.C [] Tryz.f97 q3h.ps q3h.rs
def q3h.f (k : Nat) (x0 : ByteArray) (x1 : ByteArray) : Option (ByteArray) := q3h.F k (x0, x1)
theorem q3h.f_eq (k : Nat) (x0 : ByteArray) (x1 : ByteArray) : q3h.f k x0 x1 = (q3m.f k x0).bind fun (r0 : Bool) => ifb (!r0) (some bz) ((q1q.f k x0 (92 : Int)).bind fun (r1 : ByteArray) => (q1q.f k x0 (54 : Int)).bind fun (r2 : ByteArray) => ifb (q4m (r2.size + x1.size)) ((q1d.f k (r2 ++ x1)).bind fun (r3 : ByteArray) => ifb (q4m (r1.size + r3.size)) ((q1d.f k (r1 ++ r3)).bind fun (r4 : ByteArray) => (q2c.f k r4).bind fun (r5 : ByteArray) => some r5) (none)) (none)) := by kernel_rfl
abbrev q3h.e (k : Nat) : FuncId × CE := (97, ⟨q3h.ps, q3h.rs, q3h.F k⟩)
theorem q3h.q (k : Nat) : Qs (q3h.e k) := qq (C := q3h.C) (fun k => .c (q3m.q k) <| .c (q1d.q k) <| .c (q2c.q k) <| .c (q1q.q k) <| .nil) k
def q2b.C (k : Nat) : CEs := [q1k.e k, q3n.e k, q2v.e k, q1p.e k, q3m.e k, q0j.e k, q1u.e k, q2s.e k, q3h.e k]
abbrev q2b.ps : List Par := [⟨.str, .rd⟩, ⟨(.int .i64), .rd⟩, ⟨t39, .rd⟩, ⟨t39, .rd⟩]
abbrev q2b.rs : List Res := [⟨t27, (.pr .ro (.pr (.pr (.own .ro) (.pr (.own .ro) (.pr .ro (.own .ro)))) .ro)), false⟩, ⟨.bool, .ro, false⟩]
def q2b.F := q3t E q2b.C [] Tryz.f29 q2b.ps q2b.rs
def q2b.f (k : Nat) (x0 : ByteArray) (x1 : Int) (x2 : Book) (x3 : Book) : Option (Release × Bool) := q2b.F k (x0, x1, x2, x3)
theorem q2b.f_eq (k : Nat) (x0 : ByteArray) (x1 : Int) (x2 : Book) (x3 : Book) : q2b.f k x0 x1 x2 x3 = (q3m.f k x0).bind fun (r0 : Bool) => ifb (!r0) (some (((0 : Int), (([] : List ByteArray), ([] : List En), false, ([] : List Aff)), bz, bz), false)) ((q3n.f k x1 (0 : Int) (999998 : Int)).bind fun (r1 : Bool) => ifb (!r1) (some (((0 : Int), (([] : List ByteArray), ([] : List En), false, ([] : List Aff)), bz, bz), false)) ((q1k.f k x2).bind fun (r2 : Bool) => ifb (!r2) (some (((0 : Int), (([] : List ByteArray), ([] : List En), false, ([] : List Aff)), bz, bz), false)) ((q1k.f k x3).bind fun (r3 : Bool) => ifb (!r3) (some (((0 : Int), (([] : List ByteArray), ([] : List En), false, ([] : List Aff)), bz, bz), false)) ((q0j.f k x2 x3).bind fun (r4 : Delta) => (q1u.f k x3).bind fun (r5 : ByteArray) => (q2s.f k r5).bind fun (r6 : ByteArray) => (q2v.f k ((w64 (x1 + 1)), r4, r6, bz)).bind fun (r7 : ByteArray) => (q3h.f k x0 r7).bind fun (r8 : ByteArray) => (q1p.f k ((w64 (x1 + 1)), r4, r6, r8)).bind fun (r9 : Bool) => ifb (!r9) (some (((0 : Int), (([] : List ByteArray), ([] : List En), false, ([] : List Aff)), bz, bz), false)) (some (((w64 (x1 + 1)), r4, r6, r8), true)))))) := by kernel_rfl
abbrev q2b.e (k : Nat) : FuncId × CE := (29, ⟨q2b.ps, q2b.rs, q2b.F k⟩)
theorem q2b.q (k : Nat) : Qs (q2b.e k) := qq (C := q2b.C) (fun k => .c (q1k.q k) <| .c (q3n.q k) <| .c (q2v.q k) <| .c (q1p.q k) <| .c (q3m.q k) <| .c (q0j.q k) <| .c (q1u.q k) <| .c (q2s.q k) <| .c (q3h.q k) <| .nil) k
def q20.C (k : Nat) : CEs := [q02.e k, q0a.e k, q2b.e k]
abbrev q20.ps : List Par := [⟨t141, .bx .ro⟩, ⟨.str, .rd⟩]
abbrev q20.rs : List Res := [⟨t27, (.pr .ro (.pr (.pr (.own .ro) (.pr (.own .ro) (.pr .ro (.own .ro)))) .ro)), false⟩]
def q20.F := q3t E q20.C [] Tryz.f80 q20.ps q20.rs
def q20.f (k : Nat) (x0 : List Int × Int) (x1 : ByteArray) : Option (Release × (List Int × Int)) := q20.F k (x0, x1)
theorem q20.f_eq (k : Nat) (x0 : List Int × Int) (x1 : ByteArray) : q20.f k x0 x1 = (q02.f k x0 (3 : Int)).bind fun (r0 : Int × (List Int × Int)) => (q0a.f k r0.2).bind fun (r1 : Book × (List Int × Int)) => (q0a.f k r1.2).bind fun (r2 : Book × (List Int × Int)) => (q2b.f k x1 r0.1 r1.1 r2.1).bind fun (r3 : Release × Bool) => some (r3.1, r2.2) := by kernel_rfl
abbrev q20.e (k : Nat) : FuncId × CE := (80, ⟨q20.ps, q20.rs, q20.F k⟩)
theorem q20.q (k : Nat) : Qs (q20.e k) := qq (C := q20.C) (fun k => .c (q02.q k) <| .c (q0a.q k) <| .c (q2b.q k) <| .nil) k
def q2k.C (k : Nat) : CEs := [q02.e k]
abbrev q2k.ps : List Par := [⟨t141, .bx .ro⟩, ⟨qt7, .rd⟩]
abbrev q2k.rs : List Res := [⟨(.int .i64), .ro, false⟩]
def q2k.F := q3t E q2k.C [] Tryz.f82 q2k.ps q2k.rs
def q2k.f (k : Nat) (x0 : List Int × Int) (x1 : List Int) : Option (Int × (List Int × Int)) := q2k.F k (x0, x1)
theorem q2k.f_eq (k : Nat) (x0 : List Int × Int) (x1 : List Int) : q2k.f k x0 x1 = (q02.f k x0 (x1.length : Int)).bind fun (r0 : Int × (List Int × Int)) => ifb (decide (0 ≤ r0.1) && decide (r0.1 < (x1.length : Int))) (some ((x1.getD r0.1.toNat (0 : Int)), r0.2)) (none) := by kernel_rfl
abbrev q2k.e (k : Nat) : FuncId × CE := (82, ⟨q2k.ps, q2k.rs, q2k.F k⟩)
theorem q2k.q (k : Nat) : Qs (q2k.e k) := qq (C := q2k.C) (fun k => .c (q02.q k) <| .nil) k
def q2x.C (k : Nat) : CEs := [q02.e k, q0a.e k, q0j.e k]
abbrev q2x.ps : List Par := [⟨t141, .bx .ro⟩]
abbrev q2x.rs : List Res := [⟨t25, (.pr (.own .ro) (.pr (.own .ro) (.pr .ro (.own .ro)))), false⟩]
def q2x.F := q3t E q2x.C [] Tryz.f194 q2x.ps q2x.rs
def q2x.f (k : Nat) (x0 : List Int × Int) : Option (Delta × (List Int × Int)) := q2x.F k x0
theorem q2x.f_eq (k : Nat) (x0 : List Int × Int) : q2x.f k x0 = (q0a.f k x0).bind fun (r0 : Book × (List Int × Int)) => (q0a.f k r0.2).bind fun (r1 : Book × (List Int × Int)) => (q0j.f k r0.1 r1.1).bind fun (r2 : Delta) => (q02.f k r1.2 (3 : Int)).bind fun (r3 : Int × (List Int × Int)) => ifb (r3.1 == (0 : Int)) (some ((([] : List ByteArray), r2.2), r3.2)) (some (r2, r3.2)) := by kernel_rfl
abbrev q2x.e (k : Nat) : FuncId × CE := (194, ⟨q2x.ps, q2x.rs, q2x.F k⟩)
theorem q2x.q (k : Nat) : Qs (q2x.e k) := qq (C := q2x.C) (fun k => .c (q02.q k) <| .c (q0a.q k) <| .c (q0j.q k) <| .nil) k
def q2d.C (k : Nat) : CEs := [q02.e k, q0y.e k, q1n.e k]
abbrev q2d.ps : List Par := [⟨t141, .bx .ro⟩]
abbrev q2d.rs : List Res := [⟨.str, .ro, false⟩]
def q2d.F := q3t E q2d.C [] Tryz.f144 q2d.ps q2d.rs
def q2d.f (k : Nat) (x0 : List Int × Int) : Option (ByteArray × (List Int × Int)) := q2d.F k x0
theorem q2d.f_eq (k : Nat) (x0 : List Int × Int) : q2d.f k x0 = (q02.f k x0 (16 : Int)).bind fun (r0 : Int × (List Int × Int)) => ifb (r0.1 == (0 : Int)) ((q0y.f k r0.2 [bz, (⟨#[67, 97, 116]⟩ : ByteArray), (⟨#[97, 32, 98]⟩ : ByteArray), (⟨#[97, 98, 99, 97, 98, 99, 97, 98, 99, 97, 98, 99, 97]⟩ : ByteArray), (⟨#[120, 49]⟩ : ByteArray), (⟨#[45]⟩ : ByteArray)]).bind fun (r1 : ByteArray × (List Int × Int)) => some (r1.1, r1.2)) ((q1n.f k r0.2).bind fun (r2 : ByteArray × (List Int × Int)) => some (r2.1, r2.2)) := by kernel_rfl
abbrev q2d.e (k : Nat) : FuncId × CE := (144, ⟨q2d.ps, q2d.rs, q2d.F k⟩)
theorem q2d.q (k : Nat) : Qs (q2d.e k) := qq (C := q2d.C) (fun k => .c (q02.q k) <| .c (q0y.q k) <| .c (q1n.q k) <| .nil) k
def q29.C (k : Nat) : CEs := [q02.e k, q1i.e k, q0y.e k]
abbrev q29.ps : List Par := [⟨t141, .bx .ro⟩]
abbrev q29.rs : List Res := [⟨qbz, .ro, false⟩]
def q29.F := q3t E q29.C [] Tryz.f143 q29.ps q29.rs
def q29.f (k : Nat) (x0 : List Int × Int) : Option ((Aff) × (List Int × Int)) := q29.F k x0
theorem q29.f_eq (k : Nat) (x0 : List Int × Int) : q29.f k x0 = (q1i.f k x0).bind fun (r0 : (Aff) × (List Int × Int)) => (q02.f k r0.2 (12 : Int)).bind fun (r1 : Int × (List Int × Int)) => ifb (r1.1 == (0 : Int)) ((q0y.f k r1.2 [bz, (⟨#[115]⟩ : ByteArray), (⟨#[65, 66]⟩ : ByteArray), (⟨#[90]⟩ : ByteArray)]).bind fun (r2 : ByteArray × (List Int × Int)) => some ((r2.1, r0.1.2), r2.2)) (ifb (r1.1 == (1 : Int)) ((q0y.f k r1.2 [(⟨#[121]⟩ : ByteArray), (⟨#[97, 98, 99, 100, 101]⟩ : ByteArray), bz, (⟨#[89]⟩ : ByteArray)]).bind fun (r3 : ByteArray × (List Int × Int)) => some ((r0.1.1, r0.1.2.1, r3.1, r0.1.2.2.2), r3.2)) (ifb (r1.1 == (2 : Int)) ((q0y.f k r1.2 [(⟨#[121]⟩ : ByteArray), (⟨#[116, 121]⟩ : ByteArray), (⟨#[97, 98, 99, 100, 101]⟩ : ByteArray), bz]).bind fun (r4 : ByteArray × (List Int × Int)) => some ((r0.1.1, r0.1.2.1, r0.1.2.2.1, r0.1.2.2.2.1, r4.1), r4.2)) (ifb (r1.1 == (3 : Int)) (some ((r0.1.1, (!r0.1.2.1), r0.1.2.2), r1.2)) (some (r0.1, r1.2))))) := by kernel_rfl
abbrev q29.e (k : Nat) : FuncId × CE := (143, ⟨q29.ps, q29.rs, q29.F k⟩)
theorem q29.q (k : Nat) : Qs (q29.e k) := qq (C := q29.C) (fun k => .c (q02.q k) <| .c (q1i.q k) <| .c (q0y.q k) <| .nil) k
def q2a.C (k : Nat) : CEs := [q02.e k, q2m.e k, q2x.e k, q2d.e k, q29.e k]
abbrev q2a.ps : List Par := [⟨t141, .bx .ro⟩]
abbrev q2a.rs : List Res := [⟨t25, (.pr (.own .ro) (.pr (.own .ro) (.pr .ro (.own .ro)))), false⟩]
def q2a.F := q3t E q2a.C [] Tryz.f137 q2a.ps q2a.rs
def q2a.f (k : Nat) (x0 : List Int × Int) : Option (Delta × (List Int × Int)) := q2a.F k x0
theorem q2a.f_eq (k : Nat) (x0 : List Int × Int) : q2a.f k x0 = (q2x.f k x0).bind fun (r0 : Delta × (List Int × Int)) => (q02.f k r0.2 (12 : Int)).bind fun (r1 : Int × (List Int × Int)) => ifb (r1.1 == (0 : Int)) (ifb (decide ((([] : List ByteArray).length + r0.1.1.length) * 16 ≤ q1r)) ((q2d.f k r1.2).bind fun (r2 : ByteArray × (List Int × Int)) => ifb (decide (((([] : List ByteArray) ++ r0.1.1).length + [r2.1].length) * 16 ≤ q1r)) (some ((((([] : List ByteArray) ++ r0.1.1) ++ [r2.1]), r0.1.2), r2.2)) (none)) (none)) (ifb (r1.1 == (1 : Int)) (ifb (decide ((([] : List En).length + r0.1.2.1.length) * 32 ≤ q1r)) ((q2d.f k r1.2).bind fun (r3 : ByteArray × (List Int × Int)) => (q2m.f k r3.2 r3.1).bind fun (r4 : En × (List Int × Int)) => ifb (decide (((([] : List En) ++ r0.1.2.1).length + [r4.1].length) * 32 ≤ q1r)) (some ((r0.1.1, ((([] : List En) ++ r0.1.2.1) ++ [r4.1]), r0.1.2.2), r4.2)) (none)) (none)) (ifb (r1.1 == (2 : Int)) (some ((r0.1.1, r0.1.2.1, (!r0.1.2.2.1), r0.1.2.2.2), r1.2)) (ifb (r1.1 == (3 : Int)) (ifb (decide ((([] : List Aff).length + r0.1.2.2.2.length) * 72 ≤ q1r)) ((q29.f k r1.2).bind fun (r5 : (Aff) × (List Int × Int)) => ifb (decide (((([] : List Aff) ++ r0.1.2.2.2).length + [r5.1].length) * 72 ≤ q1r)) (some ((r0.1.1, r0.1.2.1, r0.1.2.2.1, ((([] : List Aff) ++ r0.1.2.2.2) ++ [r5.1])), r5.2)) (none)) (none)) (some (r0.1, r1.2))))) := by kernel_rfl
abbrev q2a.e (k : Nat) : FuncId × CE := (137, ⟨q2a.ps, q2a.rs, q2a.F k⟩)
theorem q2a.q (k : Nat) : Qs (q2a.e k) := qq (C := q2a.C) (fun k => .c (q02.q k) <| .c (q2m.q k) <| .c (q2x.q k) <| .c (q2d.q k) <| .c (q29.q k) <| .nil) k
def q1o.C (k : Nat) : CEs := [q02.e k, q0y.e k, q2s.e k, q20.e k, q2k.e k, q2a.e k]
abbrev q1o.ps : List Par := [⟨t141, .bx .ro⟩, ⟨.str, .rd⟩]
abbrev q1o.rs : List Res := [⟨t27, (.pr .ro (.pr (.pr (.own .ro) (.pr (.own .ro) (.pr .ro (.own .ro)))) .ro)), false⟩]
def q1o.F := q3t E q1o.C [] Tryz.f72 q1o.ps q1o.rs
def q1o.f (k : Nat) (x0 : List Int × Int) (x1 : ByteArray) : Option (Release × (List Int × Int)) := q1o.F k (x0, x1)
theorem q1o.f_eq (k : Nat) (x0 : List Int × Int) (x1 : ByteArray) : q1o.f k x0 x1 = (q20.f k x0 x1).bind fun (r0 : Release × (List Int × Int)) => (q02.f k r0.2 (10 : Int)).bind fun (r1 : Int × (List Int × Int)) => ifb (r1.1 == (0 : Int)) ((q2k.f k r1.2 [(0 : Int), (1000000 : Int), (w64 (r0.1.1 + 1))]).bind fun (r2 : Int × (List Int × Int)) => some ((r2.1, r0.1.2), r2.2)) (ifb (r1.1 == (1 : Int)) ((q2a.f k r1.2).bind fun (r3 : Delta × (List Int × Int)) => some ((r0.1.1, r3.1, r0.1.2.2), r3.2)) (ifb (r1.1 == (2 : Int)) ((q2s.f k (⟨#[120]⟩ : ByteArray)).bind fun (r4 : ByteArray) => some ((r0.1.1, r0.1.2.1, r4, r0.1.2.2.2), r1.2)) (ifb (r1.1 == (3 : Int)) ((q2s.f k (⟨#[121]⟩ : ByteArray)).bind fun (r5 : ByteArray) => (q2s.f k (⟨#[122]⟩ : ByteArray)).bind fun (r6 : ByteArray) => ifb (decide (0 ≤ (1 : Int)) && (decide ((1 : Int) ≤ (r6.size : Int)) && decide ((r6.size : Int) ≤ (r6.size : Int)))) (ifb (q4m ((⟨#[88]⟩ : ByteArray).size + (r6.extract (1 : Int).toNat (r6.size : Int).toNat).size)) ((q0y.f k r1.2 [bz, r5, ((⟨#[88]⟩ : ByteArray) ++ (r6.extract (1 : Int).toNat (r6.size : Int).toNat))]).bind fun (r7 : ByteArray × (List Int × Int)) => some ((r0.1.1, r0.1.2.1, r0.1.2.2.1, r7.1), r7.2)) (none)) (none)) (some (r0.1, r1.2))))) := by kernel_rfl
abbrev q1o.e (k : Nat) : FuncId × CE := (72, ⟨q1o.ps, q1o.rs, q1o.F k⟩)
theorem q1o.q (k : Nat) : Qs (q1o.e k) := qq (C := q1o.C) (fun k => .c (q02.q k) <| .c (q0y.q k) <| .c (q2s.q k) <| .c (q20.q k) <| .c (q2k.q k) <| .c (q2a.q k) <| .nil) k
def q1l.C (k : Nat) : CEs := [q21.e k, q1o.e k]
abbrev q1l.ps : List Par := [⟨t34, .rd⟩]
abbrev q1l.rs : List Res := [⟨t27, .ro, false⟩]
def q1l.F := q3t E q1l.C [] Tryz.f22 q1l.ps q1l.rs
def q1l.f (k : Nat) (x0 : List Int) : Option Release := q1l.F k x0
theorem q1l.f_eq (k : Nat) (x0 : List Int) : q1l.f k x0 = (q21.f k x0).bind fun (r0 : List Int × Int) => (q1o.f k r0 (⟨#[107, 101, 121]⟩ : ByteArray)).bind fun (r1 : Release × (List Int × Int)) => some r1.1 := by kernel_rfl
abbrev q1l.e (k : Nat) : FuncId × CE := (22, ⟨q1l.ps, q1l.rs, q1l.F k⟩)
theorem q1l.q (k : Nat) : Qs (q1l.e k) := qq (C := q1l.C) (fun k => .c (q21.q k) <| .c (q1o.q k) <| .nil) k
def q1y.C (k : Nat) : CEs := []
abbrev q1y.ps : List Par := [⟨(.row .str), .rd⟩, ⟨(.row .str), .rd⟩]
abbrev q1y.rs : List Res := [⟨.bool, .ro, false⟩]
def q1y.H : q3q := [(4, [(0, .ro), (1, .ro), (5, .ro)])]
def q1y.F := q3t E q1y.C q1y.H Tryz.f56 q1y.ps q1y.rs
def q1y.L4 (k k1 : Nat) (x0 : List ByteArray) (x1 : List ByteArray) (x5 : Int) : Option (Bool) := atL E q1y.C q1y.H Tryz.f56 q1y.ps q1y.rs [true, true, false, true, true] k [] k1 (sh 26 [(0, .d (.row .str) x0 .ro), (1, .d (.row .str) x1 .ro), (5, .d (.int .i64) x5 .ro)])
def q1y.f (k : Nat) (x0 : List ByteArray) (x1 : List ByteArray) : Option (Bool) := q1y.F k (x0, x1)
theorem q1y.f_eq (k : Nat) (x0 : List ByteArray) (x1 : List ByteArray) : q1y.f k x0 x1 = ifb ((x0.length : Int) != (x1.length : Int)) (some false) (q1y.L4 k k x0 x1 (0 : Int)) := by kernel_rfl
theorem q1y.L4_eq (k k1 : Nat) (x0 : List ByteArray) (x1 : List ByteArray) (x5 : Int) : q1y.L4 k (k1 + 1) x0 x1 x5 = ifb (decide (x5 < (x0.length : Int))) (ifb (decide (0 ≤ x5) && decide (x5 < (x0.length : Int))) (ifb (decide (0 ≤ x5) && decide (x5 < (x1.length : Int))) (ifb (!((x0.getD x5.toNat bz).toList == (x1.getD x5.toNat bz).toList)) (some false) (q1y.L4 k k1 x0 x1 (w64 (x5 + 1)))) (none)) (none)) (some true) := by kernel_rfl
abbrev q1y.e (k : Nat) : FuncId × CE := (56, ⟨q1y.ps, q1y.rs, q1y.F k⟩)
theorem q1y.q (k : Nat) : Qs (q1y.e k) := qq (C := q1y.C) (fun k => .nil) k
def q14.C (k : Nat) : CEs := []
abbrev q14.ps : List Par := [⟨t39, .rd⟩, ⟨t39, .rd⟩]
abbrev q14.rs : List Res := [⟨.bool, .ro, false⟩]
def q14.H : q3q := [(4, [(2, .ro), (3, .ro), (5, .ro)]), (9, [(2, .ro), (3, .ro), (6, .ro)])]
def q14.F := q3t E q14.C q14.H Tryz.f32 q14.ps q14.rs
def q14.L4 (k k1 : Nat) (x2 : Book) (x3 : Book) (x5 : Int) : Option (Bool) := atL E q14.C q14.H Tryz.f32 q14.ps q14.rs [true, true, false, true, true] k [] k1 (sh 59 [(2, .box t39 x2 .ro none), (3, .box t39 x3 .ro none), (5, .d (.int .i64) x5 .ro)])
def q14.L9 (k k1 : Nat) (x2 : Book) (x3 : Book) (x6 : Int) : Option (Bool) := atL E q14.C q14.H Tryz.f32 q14.ps q14.rs [true, true, true, false, true, true] k [] k1 (sh 59 [(2, .box t39 x2 .ro none), (3, .box t39 x3 .ro none), (6, .d (.int .i64) x6 .ro)])
def q14.f (k : Nat) (x0 : Book) (x1 : Book) : Option (Bool) := q14.F k (x0, x1)
theorem q14.f_eq (k : Nat) (x0 : Book) (x1 : Book) : q14.f k x0 x1 = ifb ((x0.1.length : Int) != (x1.1.length : Int)) (some false) (ifb ((x0.2.length : Int) != (x1.2.length : Int)) (some false) (q14.L4 k k x0 x1 (0 : Int))) := by kernel_rfl
theorem q14.L4_eq (k k1 : Nat) (x2 : Book) (x3 : Book) (x5 : Int) : q14.L4 k (k1 + 1) x2 x3 x5 = ifb (decide (x5 < (x2.1.length : Int))) (ifb (decide (0 ≤ x5) && decide (x5 < (x2.1.length : Int))) (ifb (decide (0 ≤ x5) && decide (x5 < (x3.1.length : Int))) (ifb (!((((x2.1.getD x5.toNat zA).1).toList == ((x3.1.getD x5.toNat zA).1).toList) && ((((x2.1.getD x5.toNat zA).2).1 == ((x3.1.getD x5.toNat zA).2).1) && ((((((x2.1.getD x5.toNat zA).2).2).1).toList == ((((x3.1.getD x5.toNat zA).2).2).1).toList) && (((((((x2.1.getD x5.toNat zA).2).2).2).1).toList == (((((x3.1.getD x5.toNat zA).2).2).2).1).toList) && ((((((x2.1.getD x5.toNat zA).2).2).2).2).toList == (((((x3.1.getD x5.toNat zA).2).2).2).2).toList)))))) (some false) (q14.L4 k k1 x2 x3 (w64 (x5 + 1)))) (none)) (none)) (q14.L9 k k x2 x3 (0 : Int)) := by kernel_rfl
theorem q14.L9_eq (k k1 : Nat) (x2 : Book) (x3 : Book) (x6 : Int) : q14.L9 k (k1 + 1) x2 x3 x6 = ifb (decide (x6 < (x2.2.length : Int))) (ifb (decide (0 ≤ x6) && decide (x6 < (x2.2.length : Int))) (ifb (decide (0 ≤ x6) && decide (x6 < (x3.2.length : Int))) (ifb (!((((x2.2.getD x6.toNat zE).1).toList == ((x3.2.getD x6.toNat zE).1).toList) && (((x2.2.getD x6.toNat zE).2).toList == ((x3.2.getD x6.toNat zE).2).toList))) (some false) (q14.L9 k k1 x2 x3 (w64 (x6 + 1)))) (none)) (none)) (some true) := by kernel_rfl
abbrev q14.e (k : Nat) : FuncId × CE := (32, ⟨q14.ps, q14.rs, q14.F k⟩)
theorem q14.q (k : Nat) : Qs (q14.e k) := qq (C := q14.C) (fun k => .nil) k
def q3d.C (k : Nat) : CEs := [q1y.e k, q14.e k]
abbrev q3d.ps : List Par := [⟨t25, .rd⟩, ⟨t25, .rd⟩]
abbrev q3d.rs : List Res := [⟨.bool, .ro, false⟩]
def q3d.F := q3t E q3d.C [] Tryz.f78 q3d.ps q3d.rs
def q3d.f (k : Nat) (x0 : Delta) (x1 : Delta) : Option (Bool) := q3d.F k (x0, x1)
theorem q3d.f_eq (k : Nat) (x0 : Delta) (x1 : Delta) : q3d.f k x0 x1 = (q1y.f k x0.1 x1.1).bind fun (r0 : Bool) => ifb r0 (ifb (x0.2.2.1 == x1.2.2.1) ((q14.f k (x0.2.2.2, x0.2.1) (x1.2.2.2, x1.2.1)).bind fun (r1 : Bool) => some r1) (some false)) (some false) := by kernel_rfl
abbrev q3d.e (k : Nat) : FuncId × CE := (78, ⟨q3d.ps, q3d.rs, q3d.F k⟩)
theorem q3d.q (k : Nat) : Qs (q3d.e k) := qq (C := q3d.C) (fun k => .c (q1y.q k) <| .c (q14.q k) <| .nil) k
def q2l.C (k : Nat) : CEs := [q3d.e k]
abbrev q2l.ps : List Par := [⟨t27, .rd⟩, ⟨t27, .rd⟩]
abbrev q2l.rs : List Res := [⟨.bool, .ro, false⟩]
def q2l.F := q3t E q2l.C [] Tryz.f25 q2l.ps q2l.rs
def q2l.f (k : Nat) (x0 : Release) (x1 : Release) : Option (Bool) := q2l.F k (x0, x1)
theorem q2l.f_eq (k : Nat) (x0 : Release) (x1 : Release) : q2l.f k x0 x1 = ifb (x0.1 == x1.1) ((q3d.f k x0.2.1 x1.2.1).bind fun (r0 : Bool) => ifb r0 (ifb (x0.2.2.1.toList == x1.2.2.1.toList) (some (x0.2.2.2.toList == x1.2.2.2.toList)) (some false)) (some false)) (some false) := by kernel_rfl
abbrev q2l.e (k : Nat) : FuncId × CE := (25, ⟨q2l.ps, q2l.rs, q2l.F k⟩)
theorem q2l.q (k : Nat) : Qs (q2l.e k) := qq (C := q2l.C) (fun k => .c (q3d.q k) <| .nil) k
def q3i.C (k : Nat) : CEs := [q02.e k, q0y.e k]
abbrev q3i.ps : List Par := [⟨t141, .bx .ro⟩, ⟨.str, .rd⟩]
abbrev q3i.rs : List Res := [⟨.str, .ro, false⟩]
def q3i.F := q3t E q3i.C [] Tryz.f79 q3i.ps q3i.rs
def q3i.f (k : Nat) (x0 : List Int × Int) (x1 : ByteArray) : Option (ByteArray × (List Int × Int)) := q3i.F k (x0, x1)
theorem q3i.f_eq (k : Nat) (x0 : List Int × Int) (x1 : ByteArray) : q3i.f k x0 x1 = (q02.f k x0 (w64 ((x1.size : Int) + 1))).bind fun (r0 : Int × (List Int × Int)) => (q02.f k r0.2 (5 : Int)).bind fun (r1 : Int × (List Int × Int)) => ifb (r1.1 == (0 : Int)) (ifb (decide (0 ≤ (0 : Int)) && (decide ((0 : Int) ≤ r0.1) && decide (r0.1 ≤ (x1.size : Int)))) ((q0y.f k r1.2 [(⟨#[32]⟩ : ByteArray), (⟨#[10]⟩ : ByteArray), (⟨#[47]⟩ : ByteArray), (⟨#[97]⟩ : ByteArray), (⟨#[83]⟩ : ByteArray), (⟨#[45]⟩ : ByteArray), (⟨#[43]⟩ : ByteArray), (⟨#[48]⟩ : ByteArray)]).bind fun (r2 : ByteArray × (List Int × Int)) => ifb (q4m ((x1.extract (0 : Int).toNat r0.1.toNat).size + r2.1.size)) (ifb (decide (0 ≤ r0.1) && (decide (r0.1 ≤ (x1.size : Int)) && decide ((x1.size : Int) ≤ (x1.size : Int)))) (ifb (q4m (((x1.extract (0 : Int).toNat r0.1.toNat) ++ r2.1).size + (x1.extract r0.1.toNat (x1.size : Int).toNat).size)) (some ((((x1.extract (0 : Int).toNat r0.1.toNat) ++ r2.1) ++ (x1.extract r0.1.toNat (x1.size : Int).toNat)), r2.2)) (none)) (none)) (none)) (none)) (ifb (r1.1 == (1 : Int)) (ifb (decide (0 ≤ (0 : Int)) && (decide ((0 : Int) ≤ r0.1) && decide (r0.1 ≤ (x1.size : Int)))) (some ((x1.extract (0 : Int).toNat r0.1.toNat), r1.2)) (none)) (some (x1, r1.2))) := by kernel_rfl
abbrev q3i.e (k : Nat) : FuncId × CE := (79, ⟨q3i.ps, q3i.rs, q3i.F k⟩)
theorem q3i.q (k : Nat) : Qs (q3i.e k) := qq (C := q3i.C) (fun k => .c (q02.q k) <| .c (q0y.q k) <| .nil) k
def q1m.C (k : Nat) : CEs := [q1e.e k, q21.e k, q20.e k, q3i.e k]
abbrev q1m.ps : List Par := [⟨t34, .rd⟩]
abbrev q1m.rs : List Res := [⟨.str, .ro, false⟩]
def q1m.F := q3t E q1m.C [] Tryz.f26 q1m.ps q1m.rs
def q1m.f (k : Nat) (x0 : List Int) : Option (ByteArray) := q1m.F k x0
theorem q1m.f_eq (k : Nat) (x0 : List Int) : q1m.f k x0 = (q21.f k x0).bind fun (r0 : List Int × Int) => (q20.f k r0 (⟨#[107, 101, 121]⟩ : ByteArray)).bind fun (r1 : Release × (List Int × Int)) => (q1e.f k r1.1).bind fun (r2 : ByteArray) => (q3i.f k r1.2 r2).bind fun (r3 : ByteArray × (List Int × Int)) => some r3.1 := by kernel_rfl
abbrev q1m.e (k : Nat) : FuncId × CE := (26, ⟨q1m.ps, q1m.rs, q1m.F k⟩)
theorem q1m.q (k : Nat) : Qs (q1m.e k) := qq (C := q1m.C) (fun k => .c (q1e.q k) <| .c (q21.q k) <| .c (q20.q k) <| .c (q3i.q k) <| .nil) k
def q09.C (k : Nat) : CEs := [q1e.e k, q1f.e k, q1s.e k, q0l.e k, q1l.e k, q2l.e k, q1m.e k]
abbrev q09.ps : List Par := [⟨t34, .rd⟩, ⟨t34, .rd⟩]
abbrev q09.rs : List Res := [⟨.bool, .ro, false⟩]
def q09.H : q3q := [(9, [(1, .ro), (5, .ro), (7, (.pr .ro (.pr (.pr (.own .ro) (.pr (.own .ro) (.pr .ro (.own .ro)))) .ro))), (8, .ro)]), (11, [(1, .ro)])]
def q09.F := q3t E q09.C q09.H Tryz.f4 q09.ps q09.rs
def q09.J9 (k k1 : Nat) (x1 : List Int) (x5 : Release) (x7 : Release) (x8 : Bool) : Option (Bool) := atJ E q09.C q09.H Tryz.f4 q09.ps q09.rs [true, true, true, true, true, false, true, false, true] k [] k1 (sh 75 [(1, .d t34 x1 .ro), (5, .box t27 x5 .ro none), (7, .box t27 x7 (.pr .ro (.pr (.pr (.own .ro) (.pr (.own .ro) (.pr .ro (.own .ro)))) .ro)) none), (8, .d .bool x8 .ro)])
def q09.J11 (k : Nat) (x1 : List Int) : Option (Bool) := atJ E q09.C q09.H Tryz.f4 q09.ps q09.rs [true, true, true, true, true, true] 0 [] k (sh 75 [(1, .d t34 x1 .ro)])
def q09.f (k : Nat) (x0 : List Int) (x1 : List Int) : Option (Bool) := q09.F k (x0, x1)
theorem q09.f_eq (k : Nat) (x0 : List Int) (x1 : List Int) : q09.f k x0 x1 = ifb (decide ((x0.length : Int) > (1048576 : Int))) (some true) (ifb (decide ((x1.length : Int) > (1048576 : Int))) (some true) ((q1l.f k x0).bind fun (r0 : Release) => (q1s.f k r0).bind fun (r1 : ByteArray) => (q1e.f k r0).bind fun (r2 : ByteArray) => ifb (!(r1.toList == r2.toList)) (some false) (ifb (!(r1.toList == bz.toList)) ((q0l.f k r1).bind fun (r3 : Release × Bool) => q09.J9 k k x1 r0 r3.1 r3.2) (q09.J11 k x1)))) := by rw [qqx]; kernel_rfl
theorem q09.J9_eq (k k1 : Nat) (x1 : List Int) (x5 : Release) (x7 : Release) (x8 : Bool) : q09.J9 k (k1 + 1) x1 x5 x7 x8 = ifb (!x8) (some false) ((q2l.f k1 x7 x5).bind fun (r4 : Bool) => ifb (!r4) (some false) (q09.J11 k x1)) := by kernel_rfl
theorem q09.J11_eq (k : Nat) (x1 : List Int) : q09.J11 (k + 1) x1 = (q1m.f k x1).bind fun (r5 : ByteArray) => (q0l.f k r5).bind fun (r6 : Release × Bool) => (q1f.f k r5).bind fun (r7 : Release × Bool) => ifb (r6.2 == r7.2) ((q2l.f k r6.1 r7.1).bind fun (r8 : Bool) => ifb r8 (ifb (!r6.2) (some true) ((q1s.f k r6.1).bind fun (r9 : ByteArray) => some (r9.toList == r5.toList))) (some false)) (some false) := by kernel_rfl
abbrev q09.e (k : Nat) : FuncId × CE := (4, ⟨q09.ps, q09.rs, q09.F k⟩)
theorem q09.q (k : Nat) : Qs (q09.e k) := qq (C := q09.C) (fun k => .c (q1e.q k) <| .c (q1f.q k) <| .c (q1s.q k) <| .c (q0l.q k) <| .c (q1l.q k) <| .c (q2l.q k) <| .c (q1m.q k) <| .nil) k
end
end Go.Proofs.YtjfkeknnjjlepaaGreatDoor.Rf
end

section
namespace Go.Proofs.YtjfkeknnjjlepaaGreatDoor.Rf
open Go Go.RowKit
set_option linter.unusedVariables false
set_option linter.unusedSimpArgs false
theorem qqy (a b : En) : ((a.1.toList == b.1.toList) && (a.2.toList == b.2.toList)) = decide (a = b) := by
  obtain ⟨a1, a2⟩ := a
  obtain ⟨b1, b2⟩ := b
  simp only [q5l]
  rw [Bool.eq_iff_iff]
  simp only [Bool.and_eq_true, decide_eq_true_eq, Prod.mk.injEq]
end Go.Proofs.YtjfkeknnjjlepaaGreatDoor.Rf
end

section
namespace Go.Proofs.YtjfkeknnjjlepaaGreatDoor.Rf
open Go Go.RowKit
set_option linter.unusedVariables false
set_option linter.unusedSimpArgs false
def atE (l : List En) (s : ByteArray) : Nat := (l.takeWhile fun e => ltS e.1 s).length
def q67 (l : List En) (s : ByteArray) : Bool := match l.drop (atE l s) with
  | e :: _ => decide (e.1 = s)
  | [] => false
theorem q6h (l : List En) (s : ByteArray) (hS : Sm l.length) : Al fun k => q2y.f k l s = some ((atE l s : Int), q67 l s) := by
  have key : ∀ (t : List En) (i : Nat), l.drop i = t → Al2 fun k k1 => q2y.L2 k k1 l s (i : Int) = some (((i + (t.takeWhile fun e => ltS e.1 s).length : Nat) : Int), match t.drop (t.takeWhile fun e => ltS e.1 s).length with | e :: _ => decide (e.1 = s) | [] => false) := by
    intro t
    induction t with
    | nil =>
      intro i hd
      refine Al2.succ (Al2.now fun k k1 => ?_)
      simp only [q2y.L2_eq, at_end (drop_nil hd), q0e]
      rfl
    | cons x t ih =>
      intro i hd
      obtain ⟨hi, g1, g2⟩ := q3p zE hd
      obtain ⟨c1, c2, c3, c4⟩ := q5y hi hS
      refine Al2.succ ((ih (i + 1) g2).mono fun k k1 e => ?_)
      simp only [q2y.L2_eq, c1, c2, c3, w64, c4, g1, Bool.and_self, q07, e, q5l]
      cases hx : Op.bytesLess x.1.toList s.toList
      · rw [q0e, List.takeWhile_cons_of_neg (by simp [ltS, hx])]
        rfl
      · rw [q07, List.takeWhile_cons_of_pos (by simp [ltS, hx])]
        simp only [List.length_cons, List.drop_succ_cons]
        rw [show i + 1 + (t.takeWhile fun e => ltS e.1 s).length = i + ((t.takeWhile fun e => ltS e.1 s).length + 1) by omega]
  refine (key l 0 rfl).diag.mono fun k e => ?_
  rw [q2y.f_eq, show (0 : Int) = ((0 : Nat) : Int) from rfl, e]
  simp only [Nat.zero_add]
  rfl
theorem qs6 {l : List En} (h : (q7m l.length fun i => q7u (l.getD i zE) && (decide (i = 0) || ltS (l.getD (i - 1) zE).1 (l.getD i zE).1)) = true) : l.Pairwise fun a b => ltE a b = true := by
  rw [q3s] at h
  have step : ∀ i, i + 1 < l.length → ltE (l.getD i zE) (l.getD (i + 1) zE) = true := by
    intro i hi
    have := h (i + 1) hi
    simp only [Bool.and_eq_true, Bool.or_eq_true, decide_eq_true_eq, Nat.add_sub_cancel] at this
    exact this.2.resolve_left (by omega)
  rw [List.pairwise_iff_getElem]
  have far : ∀ d i, i + d + 1 < l.length → ltE (l.getD i zE) (l.getD (i + d + 1) zE) = true := by
    intro d
    induction d with
    | zero => exact fun i hi => step i hi
    | succ d ih => exact fun i hi => qmk (ih i (by omega)) (step (i + d + 1) hi)
  intro i j hi hj hij
  have := far (j - i - 1) i (by omega)
  rw [show i + (j - i - 1) + 1 = j by omega] at this
  rwa [List.getD_eq_getElem?_getD, List.getElem?_eq_getElem hi, List.getD_eq_getElem?_getD, List.getElem?_eq_getElem hj] at this
theorem qj5 {l : List En} (h : q69 l = true) : l.Pairwise fun a b => ltE a b = true := by
  rw [q69, Bool.and_eq_true] at h
  exact qs6 h.1
theorem qpm {a b : En} (h : ltE a b = true) : a.1 ≠ b.1 := by
  intro e
  unfold ltE at h
  rw [e] at h
  have := qdi b
  unfold ltE at this
  rw [this] at h
  cases h
theorem qgp {l : List En} (h : l.Pairwise fun a b => ltE a b = true) (s : ByteArray) : q67 l s = qd8 l s := by
  induction l with
  | nil => rfl
  | cons x l ih =>
    obtain ⟨h1, h2⟩ := List.pairwise_cons.1 h
    unfold q67 atE
    cases hx : ltS x.1 s
    · rw [List.takeWhile_cons_of_neg (by simp [hx])]
      simp only [List.length_nil, List.drop_zero, qd8, List.any_cons]
      by_cases he : x.1 = s
      · rw [decide_eq_true he]; rfl
      · rw [decide_eq_false he, Bool.false_or]
        symm
        rw [List.any_eq_false]
        intro y hy
        simp only [decide_eq_true_eq]
        intro hys
        have := h1 y hy
        unfold ltE at this
        rw [hys] at this
        unfold ltS at hx
        rw [this] at hx
        cases hx
    · rw [List.takeWhile_cons_of_pos (by simp [hx])]
      simp only [List.length_cons, List.drop_succ_cons]
      have := ih h2
      unfold q67 atE at this
      rw [this, qd8, qd8, List.any_cons, decide_eq_false, Bool.false_or]
      intro he
      unfold ltS at hx
      rw [he] at hx
      have := qdi (s, s)
      unfold ltE at this
      rw [hx] at this
      cases this
theorem qgq {b : Book} (h : q5n b = true) : b.1.length ≤ 8 ∧ b.2.length ≤ 24 := by
  simp only [q5n, q6t, q69, Bool.and_eq_true, decide_eq_true_eq] at h
  exact ⟨h.1.2, h.2.2⟩
theorem qeq {b : Book} (h : q5n b = true) : b.2.Pairwise fun a b => ltE a b = true := by
  simp only [q5n, Bool.and_eq_true] at h
  exact qj5 h.2
end Go.Proofs.YtjfkeknnjjlepaaGreatDoor.Rf
end

section
namespace Go.Proofs.YtjfkeknnjjlepaaGreatDoor.Rf
open Go Go.RowKit
set_option linter.unusedVariables false
set_option linter.unusedSimpArgs false
def qoo (a : ByteArray) : Bool := decide (1 ≤ a.size ∧ a.size ≤ 64) && !decide (bN a (a.size - 1) = 0)
def q9o (b : Book) : ByteArray := mkB (nlB (b.1.map q64 ++ b.2.map q5o))
def tB (b : Book) : Prop := (b.1.length ≤ 1000 ∧ ∀ a ∈ b.1, tA a) ∧ b.2.length ≤ 1000 ∧ ∀ e ∈ b.2, tE e
theorem qs7 {b : Book} (h : q5n b = true) : tB b := by
  have hl := qgq h
  simp only [q5n, Bool.and_eq_true] at h
  obtain ⟨ha, he⟩ := h
  refine ⟨⟨by omega, fun a hm => ?_⟩, by omega, fun e hm => ?_⟩
  · simp only [q6t, Bool.and_eq_true, q3s] at ha
    obtain ⟨i, hi, rfl⟩ := List.mem_iff_getElem.1 hm
    have := (ha.1 i hi).1
    rw [List.getD_eq_getElem?_getD, List.getElem?_eq_getElem hi] at this
    simp only [qd7, qcs, q3r, Bool.and_eq_true, decide_eq_true_eq, Option.getD_some] at this
    unfold tA
    omega
  · simp only [q69, Bool.and_eq_true, q3s] at he
    obtain ⟨i, hi, rfl⟩ := List.mem_iff_getElem.1 hm
    have := (he.1 i hi).1
    rw [List.getD_eq_getElem?_getD, List.getElem?_eq_getElem hi] at this
    simp only [q7u, q5m, q3r, Bool.and_eq_true, decide_eq_true_eq, Option.getD_some] at this
    unfold tE
    omega
end Go.Proofs.YtjfkeknnjjlepaaGreatDoor.Rf
end

section
namespace Go.Proofs.YtjfkeknnjjlepaaGreatDoor.Rf
open Go Go.RowKit
set_option linter.unusedVariables false
set_option linter.unusedSimpArgs false
theorem qmn {r : Release} (h : q8c r = true) : q53 (q8d r) = (r, true) := by
  rw [← qhu qs0 (fun r h => qeh h), qeh h]
  show (if q8c r && decide (q8d r = q8d r) then _ else _) = _
  rw [h, decide_eq_true rfl]
  rfl
end Go.Proofs.YtjfkeknnjjlepaaGreatDoor.Rf
end

section
namespace Go.Proofs.YtjfkeknnjjlepaaGreatDoor.Rf
open Go Go.RowKit Go.Proofs.YtjfkeknnjjlepaaGreatDoor.Sha Go.Proofs.YtjfkeknnjjlepaaGreatDoor
set_option linter.unusedVariables false
set_option linter.unusedSimpArgs false
abbrev kT : List Int := Go.Proofs.YtjfkeknnjjlepaaGreatDoor.M.qml
theorem w32 (x : Int) : IntKind.u32.wrap x = x % 4294967296 := rfl
theorem w8 (x : Int) : IntKind.u8.wrap x = x % 256 := rfl
theorem gd {n m : Nat} (h : n < m) : (decide (0 ≤ (n : Int)) && decide ((n : Int) < (m : Int))) = true := by rw [decide_eq_true (by omega), decide_eq_true (by omega)]; rfl
theorem q6j (k : Nat) (x n : Int) (h0 : 0 ≤ n) (h1 : n ≤ 32) : q2g.f k x n = some (rot x n) := by
  rw [q2g.f_eq, show w64 (32 - n) = 32 - n from q5i (by omega) (by omega), decide_eq_true h0, q07, decide_eq_true (by omega), q07, fd]
  rfl
theorem qbd {xs : List Int} (h : ∀ x ∈ xs, 0 ≤ x ∧ x ≤ 255) (i : Nat) : 0 ≤ xs.getD i 0 ∧ xs.getD i 0 ≤ 255 := by
  rw [List.getD_eq_getElem?_getD]
  cases e : xs[i]? with
  | none => simp
  | some b => exact h b (List.mem_of_getElem? e)
theorem sh24 {a : Int} (h : 0 ≤ a ∧ a ≤ 255) : IntKind.u32.wrap (IntKind.u32.wrap a * 2 ^ (min (24 : Int).toNat 32)) = a * 16777216 := by
  rw [w32, w32, show ((2 : Int) ^ (min (24 : Int).toNat 32)) = 16777216 from rfl]; omega
theorem sh16 {a : Int} (h : 0 ≤ a ∧ a ≤ 255) : IntKind.u32.wrap (IntKind.u32.wrap a * 2 ^ (min (16 : Int).toNat 32)) = a * 65536 := by
  rw [w32, w32, show ((2 : Int) ^ (min (16 : Int).toNat 32)) = 65536 from rfl]; omega
theorem sh8 {a : Int} (h : 0 ≤ a ∧ a ≤ 255) : IntKind.u32.wrap (IntKind.u32.wrap a * 2 ^ (min (8 : Int).toNat 32)) = a * 256 := by
  rw [w32, w32, show ((2 : Int) ^ (min (8 : Int).toNat 32)) = 256 from rfl]; omega
theorem sh0 {a : Int} (h : 0 ≤ a ∧ a ≤ 255) : IntKind.u32.wrap a = a := by rw [w32]; omega
theorem qer (i c : Nat) (h : i + c ≤ 9223372036854775807) : w64 ((i : Int) + (c : Int)) = ((i + c : Nat) : Int) := by rw [w64, q5i (by omega) (by omega)]; omega
theorem qop (i c : Nat) (h : i ≤ 9223372036854775807) (hc : c ≤ i) : w64 ((i : Int) - (c : Int)) = ((i - c : Nat) : Int) := by rw [w64, q5i (by omega) (by omega)]; omega
theorem qoq (b : List Int) (hl : b.length = 64) (hb : ∀ x ∈ b, 0 ≤ x ∧ x ≤ 255) : Al fun k => q0d.f k b = some (q91 b 64) := by
  have t2 : decide ((0 : Int) ≤ 24) = true := rfl
  have t3 : decide ((0 : Int) ≤ 16) = true := rfl
  have t4 : decide ((0 : Int) ≤ 8) = true := rfl
  have L7 := qav (Q := fun i => 16 ≤ i → Al2 fun k k1 => q0d.L7 k k1 (q91 b i) (i : Int) = some (q91 b 64)) 64
    (fun _ => Al2.succ (Al2.now fun k k1 => by rw [q0d.L7_eq]; exact q0e _ _)) (fun i hi hq h16 => by
      have h := hq (by omega)
      have hlen := q7c b i
      have j8 : Al3 fun k k1 k2 => q0d.J8 k k1 k2 (q91 b (i + 1)) (i : Int) = some (q91 b 64) :=
        Al3.succ (h.fst.mono fun k k1 k2 e => by rw [q0d.J8_eq, show (1 : Int) = ((1 : Nat) : Int) from rfl, qer i 1 (by omega)]; exact e)
      refine Al2.succ (j8.in2.mono fun k k1 e => ?_)
      have c0 : decide ((i : Int) < 64) = true := decide_eq_true (by omega)
      have a15 : w64 ((i : Int) - 15) = ((i - 15 : Nat) : Int) := qop i 15 (by omega) (by omega)
      have a2 : w64 ((i : Int) - 2) = ((i - 2 : Nat) : Int) := qop i 2 (by omega) (by omega)
      have a16 : w64 ((i : Int) - 16) = ((i - 16 : Nat) : Int) := qop i 16 (by omega) (by omega)
      have a7 : w64 ((i : Int) - 7) = ((i - 7 : Nat) : Int) := qop i 7 (by omega) (by omega)
      have hz : ∀ v : Int, decide (((q91 b i).length + [v].length) * 4 ≤ q1r) = true := fun v => decide_eq_true (by rw [hlen]; simp [q1r]; omega)
      have g15 : (decide (0 ≤ ((i - 15 : Nat) : Int)) && decide (((i - 15 : Nat) : Int) < ((q91 b i).length : Int))) = true := gd (by omega)
      have g2 : (decide (0 ≤ ((i - 2 : Nat) : Int)) && decide (((i - 2 : Nat) : Int) < ((q91 b i).length : Int))) = true := gd (by omega)
      have g16 : (decide (0 ≤ ((i - 16 : Nat) : Int)) && decide (((i - 16 : Nat) : Int) < ((q91 b i).length : Int))) = true := gd (by omega)
      have g7 : (decide (0 ≤ ((i - 7 : Nat) : Int)) && decide (((i - 7 : Nat) : Int) < ((q91 b i).length : Int))) = true := gd (by omega)
      have d3 : ∀ x : Int, x.fdiv (2 ^ (min (3 : Int).toNat 32)) = x / 8 := fun x => fd x 3
      have d10 : ∀ x : Int, x.fdiv (2 ^ (min (10 : Int).toNat 32)) = x / 1024 := fun x => fd x 10
      simp only [q0d.L7_eq, c0, q07, a15, a2, a16, a7, g15, g2, g16, g7, q6j _ _ 7 (by decide) (by decide), q6j _ _ 18 (by decide) (by decide), q6j _ _ 17 (by decide) (by decide), q6j _ _ 19 (by decide) (by decide), Option.bind_some, hz, d3, d10,
        show decide ((0 : Int) ≤ 3) = true from rfl, show decide ((0 : Int) ≤ 10) = true from rfl]
      have hV := qhy b (q91 b i) i (by omega)
      have hw : q91 b (i + 1) = q91 b i ++ [qg5 b (q91 b i) i] := rfl
      rw [hw, hV] at e
      have hs : ∀ a c d e : Int, IntKind.u32.wrap (IntKind.u32.wrap (IntKind.u32.wrap (a + c) + d) + e) = (a + d + c + e) % 4294967296 := by intro a c d e; rw [w32, w32, w32]; omega
      rw [hs]
      exact e)
  have L3 := qav (Q := fun i => Al2 fun k k1 => q0d.L3 k k1 b (q91 b i) (i : Int) = some (q91 b 64)) 16
    (Al2.succ ((L7 16 (by omega) (by omega)).diag.fst.mono fun k k1 e => by rw [q0d.L3_eq]; exact (q0e _ _).trans e)) (fun i hi h => by
      have hlen := q7c b i
      have j4 : Al3 fun k k1 k2 => q0d.J4 k k1 k2 b (q91 b (i + 1)) (i : Int) = some (q91 b 64) :=
        Al3.succ (h.fst.mono fun k k1 k2 e => by rw [q0d.J4_eq, show (1 : Int) = ((1 : Nat) : Int) from rfl, qer i 1 (by omega)]; exact e)
      refine Al2.succ (j4.in2.mono fun k k1 e => ?_)
      have c0 : decide ((i : Int) < 16) = true := decide_eq_true (by omega)
      have a0 : w64 (4 * (i : Int)) = ((4 * i : Nat) : Int) := by rw [w64, q5i (by omega) (by omega)]; omega
      have a1 : w64 (((4 * i : Nat) : Int) + 1) = ((4 * i + 1 : Nat) : Int) := qer (4 * i) 1 (by omega)
      have a2 : w64 (((4 * i : Nat) : Int) + 2) = ((4 * i + 2 : Nat) : Int) := qer (4 * i) 2 (by omega)
      have a3 : w64 (((4 * i : Nat) : Int) + 3) = ((4 * i + 3 : Nat) : Int) := qer (4 * i) 3 (by omega)
      have g0 : (decide (0 ≤ ((4 * i : Nat) : Int)) && decide (((4 * i : Nat) : Int) < (b.length : Int))) = true := gd (by omega)
      have g1 : (decide (0 ≤ ((4 * i + 1 : Nat) : Int)) && decide (((4 * i + 1 : Nat) : Int) < (b.length : Int))) = true := gd (by omega)
      have g2 : (decide (0 ≤ ((4 * i + 2 : Nat) : Int)) && decide (((4 * i + 2 : Nat) : Int) < (b.length : Int))) = true := gd (by omega)
      have g3 : (decide (0 ≤ ((4 * i + 3 : Nat) : Int)) && decide (((4 * i + 3 : Nat) : Int) < (b.length : Int))) = true := gd (by omega)
      have hz : ∀ v : Int, decide (((q91 b i).length + [v].length) * 4 ≤ q1r) = true := fun v => decide_eq_true (by rw [hlen]; simp [q1r]; omega)
      have n0 : ((4 * i : Nat) : Int).toNat = 4 * i := rfl
      have n1 : ((4 * i + 1 : Nat) : Int).toNat = 4 * i + 1 := rfl
      have n2 : ((4 * i + 2 : Nat) : Int).toNat = 4 * i + 2 := rfl
      have n3 : ((4 * i + 3 : Nat) : Int).toNat = 4 * i + 3 := rfl
      simp only [q0d.L3_eq, c0, q07, a0, a1, a2, a3, g0, g1, g2, g3, t2, t3, t4, hz, n0, n1, n2, n3, sh24 (qbd hb (4 * i)), sh16 (qbd hb (4 * i + 1)), sh8 (qbd hb (4 * i + 2)), sh0 (qbd hb (4 * i + 3))]
      have hw : q91 b (i + 1) = q91 b i ++ [qg5 b (q91 b i) i] := rfl
      rw [hw, qk3 b (q91 b i) i hi] at e
      exact e)
  refine (L3 0 (by omega)).diag.mono fun k e => ?_
  rw [q0d.f_eq]
  exact (q07 _ _).trans e
theorem qk6 (k k1 k2 k3 : Nat) (x0 x5 x6 s : List Int) (x8 t a1 m : Int) (j : Nat) (h0 : 0 < j) (hj : j < s.length) (hs : s.length ≤ 1000) :
    q03.L13 k k1 k2 (k3 + 1) x0 x5 x6 s x8 t a1 m (j : Int) = q03.L13 k k1 k2 k3 x0 x5 x6 (s.set j (s.getD (j - 1) 0)) x8 t a1 m ((j - 1 : Nat) : Int) := by
  obtain ⟨p1, p2, p3, p4, p5⟩ := q8x h0 hj (by omega)
  have q1 : (decide (0 ≤ (j : Int)) && decide ((j : Int) < (s.length : Int))) = true := gd hj
  simp only [q03.L13_eq, p1, w64, p2, p3, p4, p5, q1, Bool.and_self, q07]
  rfl
theorem qor (k k1 k2 k3 : Nat) (x0 x5 x6 : List Int) (x8 t a1 m a b c d e f g h : Int) :
    q03.L13 k k1 k2 (k3 + 8) x0 x5 x6 [a, b, c, d, e, f, g, h] x8 t a1 m 7 = q03.J6 k k1 k1 x0 x5 x6 [IntKind.u32.wrap (IntKind.u32.wrap (t + a1) + m), a, b, c, IntKind.u32.wrap (d + t), e, f, g] x8 := by
  have s := fun k3 s j => qk6 k k1 k2 k3 x0 x5 x6 s x8 t a1 m j
  rw [show (7 : Int) = ((7 : Nat) : Int) from rfl, s (k3 + 7) _ 7 (by omega) (by simp) (by simp)]
  refine (s (k3 + 6) _ 6 (by omega) (by simp) (by simp)).trans ?_
  refine (s (k3 + 5) _ 5 (by omega) (by simp) (by simp)).trans ?_
  refine (s (k3 + 4) _ 4 (by omega) (by simp) (by simp)).trans ?_
  refine (s (k3 + 3) _ 3 (by omega) (by simp) (by simp)).trans ?_
  refine (s (k3 + 2) _ 2 (by omega) (by simp) (by simp)).trans ?_
  refine (s (k3 + 1) _ 1 (by omega) (by simp) (by simp)).trans ?_
  show q03.L13 k k1 k2 (k3 + 1) x0 x5 x6 [a, a, b, c, d, e, f, g] x8 t a1 m 0 = _
  rw [q03.L13_eq]
  exact (q0e _ _).trans ((q07 _ _).trans ((q07 _ _).trans ((q07 _ _).trans rfl)))
theorem qot (h b : List Int) (hh : h.length = 8) (hl : b.length = 64) (hb : ∀ x ∈ b, 0 ≤ x ∧ x ≤ 255) : Al fun k => q03.f k h b = some (block kT h b) := by
  have W := qoq b hl hb
  have hwl := q7c b 64
  have hB : block kT h b = List.zipWith add h (qqa kT (q91 b 64) h 64) := rfl
  generalize hW : q91 b 64 = ws at hwl W hB
  have htl : kT.length = 64 := rfl
  have hs := q7d kT ws h hh 64
  have L20 : ∀ st : List Int, st.length = 8 → Al fun k => q03.L20 k k h st ([] : List Int) 0 = some (List.zipWith add h st) := fun st hst => by
    have hz : (List.zipWith add h st).length = 8 := by simp [List.length_zipWith]; omega
    have key := qav (Q := fun i => Al2 fun k k1 => q03.L20 k k1 h st ((List.zipWith add h st).take i) (i : Int) = some (List.zipWith add h st)) 8
      (Al2.succ (Al2.now fun k k1 => by rw [q03.L20_eq, List.take_of_length_le (by omega)]; exact q0e _ _)) (fun i hi hr => by
        refine Al2.succ (hr.mono fun k k1 e => ?_)
        have c0 : decide ((i : Int) < 8) = true := decide_eq_true (by omega)
        have g1 : (decide (0 ≤ (i : Int)) && decide ((i : Int) < (h.length : Int))) = true := gd (by omega)
        have g2 : (decide (0 ≤ (i : Int)) && decide ((i : Int) < (st.length : Int))) = true := gd (by omega)
        have hzz : ∀ v : Int, decide ((((List.zipWith add h st).take i).length + [v].length) * 4 ≤ q1r) = true := fun v => decide_eq_true (by rw [List.length_take]; simp [q1r]; omega)
        have a1 : w64 ((i : Int) + 1) = ((i + 1 : Nat) : Int) := qer i 1 (by omega)
        have h1 : (List.zipWith add h st).take (i + 1) = (List.zipWith add h st).take i ++ [IntKind.u32.wrap (h.getD i 0 + st.getD i 0)] := by
          rw [List.take_succ_eq_append_getElem (by omega), List.getElem_zipWith]
          simp [List.getD_eq_getElem?_getD, show i < h.length by omega, show i < st.length by omega, add, w32]
        rw [h1] at e
        simp only [q03.L20_eq, c0, q07, g1, g2, hzz, a1, show (i : Int).toNat = i from rfl]
        exact e)
    exact (key 0 (by omega)).diag
  have L5 := qav (Q := fun i => Al2 fun k k1 => q03.L5 k k1 h ws kT (qqa kT ws h i) (i : Int) = some (block kT h b)) 64
    (Al2.succ ((L20 _ hs).fst.mono fun k k1 e => by rw [q03.L5_eq, hB]; exact (q0e _ _).trans e)) (fun i hi hr => by
      obtain ⟨y0, y1, y2, y3, y4, y5, y6, y7, hy⟩ := eight (q7d kT ws h hh i)
      have hn : qqa kT ws h (i + 1) = rnd (kT.getD i 0) (ws.getD i 0) (qqa kT ws h i) := rfl
      rw [hn] at hr
      rw [hy] at hr ⊢
      have a1 : w64 ((i : Int) + 1) = ((i + 1 : Nat) : Int) := qer i 1 (by omega)
      have j6 : Al3 fun k k1 k2 => q03.J6 k k1 k2 h ws kT (rnd (kT.getD i 0) (ws.getD i 0) [y0, y1, y2, y3, y4, y5, y6, y7]) (i : Int) = some (block kT h b) :=
        Al3.succ (hr.fst.mono fun k k1 k2 e => by rw [q03.J6_eq, a1]; exact e)
      have j12 : ∀ t a m : Int, [IntKind.u32.wrap (IntKind.u32.wrap (t + a) + m), y0, y1, y2, IntKind.u32.wrap (y3 + t), y4, y5, y6] = rnd (kT.getD i 0) (ws.getD i 0) [y0, y1, y2, y3, y4, y5, y6, y7] →
          Al3 fun k k1 k2 => q03.J12 k k1 k2 h ws kT [y0, y1, y2, y3, y4, y5, y6, y7] (i : Int) t a m = some (block kT h b) := fun t a m he => by
        obtain ⟨n, hn⟩ := j6.in2
        refine ⟨n + 9, fun p q r hp hq hr => ?_⟩
        obtain ⟨r', rfl⟩ : ∃ r', r = r' + 9 := ⟨r - 9, by omega⟩
        rw [q03.J12_eq, qor, he]
        exact hn p q (by omega) (by omega)
      have gk : (decide (0 ≤ (i : Int)) && decide ((i : Int) < (kT.length : Int))) = true := gd (by omega)
      have gw : (decide (0 ≤ (i : Int)) && decide ((i : Int) < (ws.length : Int))) = true := gd (by omega)
      have G : ∀ n : Nat, n < 8 → (decide (0 ≤ (n : Int)) && decide ((n : Int) < (([y0, y1, y2, y3, y4, y5, y6, y7] : List Int).length : Int))) = true := fun n hn => gd (by simpa using hn)
      have G0 := G 0 (by omega)
      have G1 := G 1 (by omega)
      have G2 := G 2 (by omega)
      have G4 := G 4 (by omega)
      have G5 := G 5 (by omega)
      have G6 := G 6 (by omega)
      have G7 := G 7 (by omega)
      rw [show ((0 : Nat) : Int) = 0 from rfl] at G0
      rw [show ((1 : Nat) : Int) = 1 from rfl] at G1
      rw [show ((2 : Nat) : Int) = 2 from rfl] at G2
      rw [show ((4 : Nat) : Int) = 4 from rfl] at G4
      rw [show ((5 : Nat) : Int) = 5 from rfl] at G5
      rw [show ((6 : Nat) : Int) = 6 from rfl] at G6
      rw [show ((7 : Nat) : Int) = 7 from rfl] at G7
      have j10 : Al3 fun k k1 k2 => q03.J10 k k1 k2 h ws kT [y0, y1, y2, y3, y4, y5, y6, y7] (i : Int) (Sha.one (kT.getD i 0) (ws.getD i 0) y4 y5 y6 y7 % 4294967296) = some (block kT h b) := by
        refine Al3.succ ((j12 (Sha.one (kT.getD i 0) (ws.getD i 0) y4 y5 y6 y7 % 4294967296) (S0 y0) (maj y0 y1 y2) ?_).mono fun k k1 k2 e => ?_)
        · show _ = [add (Sha.one (kT.getD i 0) (ws.getD i 0) y4 y5 y6 y7) (two y0 y1 y2), y0, y1, y2, add y3 (Sha.one (kT.getD i 0) (ws.getD i 0) y4 y5 y6 y7), y4, y5, y6]
          have e1 : ∀ o a m : Int, IntKind.u32.wrap (IntKind.u32.wrap (o % 4294967296 + a) + m) = add o (a + m) := by intro o a m; rw [w32, w32, add]; omega
          have e2 : ∀ o d : Int, IntKind.u32.wrap (d + o % 4294967296) = add d o := by intro o d; rw [w32, add]; omega
          rw [e1, e2]
          rfl
        · simp only [q03.J10_eq, G0, G1, G2, q07, q6j _ _ 2 (by decide) (by decide), q6j _ _ 13 (by decide) (by decide), q6j _ _ 22 (by decide) (by decide), Option.bind_some]
          exact e
      refine Al2.succ (j10.in2.mono fun k k1 e => ?_)
      have c0 : decide ((i : Int) < 64) = true := decide_eq_true (by omega)
      simp only [q03.L5_eq, c0, q07, G4, G5, G6, G7, gk, gw, q6j _ _ 6 (by decide) (by decide), q6j _ _ 11 (by decide) (by decide), q6j _ _ 25 (by decide) (by decide), Option.bind_some]
      have e1 : ∀ a b c d e : Int, IntKind.u32.wrap (IntKind.u32.wrap (IntKind.u32.wrap (IntKind.u32.wrap (a + b) + c) + d) + e) = (a + b + c + d + e) % 4294967296 := by intro a b c d e; simp only [w32]; omega
      rw [e1]
      exact e)
  refine (W.and (L5 0 (by omega)).diag).mono fun k ⟨e, e2⟩ => ?_
  rw [q03.f_eq, e, Option.bind_some, q31.f_eq, Option.bind_some, decide_eq_true (by simp [q1r, hh]), q07]
  exact e2
theorem qmo (s : ByteArray) (hs : s.size ≤ 1099511627776) : Al fun k => q0n.f k s = some (padded (bytesOf s)) := by
  have hn : (bytesOf s).length = s.size := by rw [bytesOf, List.length_map, ← q4b]; rfl
  have hm : w64 ((s.size : Int) * 8) = (s.size : Int) * 8 := q5i (by omega) (by omega)
  have L6 : ∀ (base : List Int) (j : Nat), base.length ≤ 2000000000000 → j ≤ 8 → Al2 fun k k1 => q0n.L6 k k1 (base ++ (q5w ((s.size : Int) * 8)).take (8 - j)) ((s.size : Int) * 8) ((j : Int) - 1) = some (base ++ q5w ((s.size : Int) * 8)) := by
    intro base j hbl
    induction j with
    | zero => intro _; exact Al2.succ (Al2.now fun k k1 => by rw [q0n.L6_eq]; exact q0e _ _)
    | succ j ih =>
      intro hj
      refine Al2.succ ((ih (by omega)).mono fun k k1 e => ?_)
      have c0 : decide (((j + 1 : Nat) : Int) - 1 ≥ 0) = true := decide_eq_true (by omega)
      have c1 : ((j + 1 : Nat) : Int) - 1 = (j : Int) := by omega
      have c2 : w64 (8 * (j : Int)) = ((8 * j : Nat) : Int) := by rw [w64, q5i (by omega) (by omega)]; omega
      have c3 : decide (0 ≤ ((8 * j : Nat) : Int)) = true := decide_eq_true (by omega)
      have c4 : ∀ v : Int, decide (((base ++ (q5w ((s.size : Int) * 8)).take (8 - (j + 1))).length + [v].length) * 1 ≤ q1r) = true := fun v => decide_eq_true (by
        rw [List.length_append, List.length_take]; simp [q1r]; omega)
      have c5 : w64 ((j : Int) - 1) = (j : Int) - 1 := q5i (by omega) (by omega)
      have hv : IntKind.u8.wrap (((s.size : Int) * 8).fdiv (2 ^ (min ((8 * j : Nat) : Int).toNat 64))) = qc0 ((s.size : Int) * 8) j := by
        rw [show ((8 * j : Nat) : Int).toNat = 8 * j from rfl, Nat.min_eq_left (by omega), fd, w8]; rfl
      rw [q0n.L6_eq, c0, q07, c1, c2, c3, q07, c4, q07, hv, List.append_assoc, take_len _ j (by omega), c5]
      exact e
  have hz : zeros s.size ≤ 63 := by unfold zeros; omega
  have L2 : ∀ (d j : Nat), j + d = zeros s.size → Al2 fun k k1 => q0n.L2 k k1 s ((bytesOf s ++ [128]) ++ List.replicate j 0) = some (padded (bytesOf s)) := by
    intro d
    induction d with
    | zero =>
      intro j hj
      obtain rfl : j = zeros s.size := by omega
      have hlen : ((bytesOf s ++ [128]) ++ List.replicate (zeros s.size) (0 : Int)).length = s.size + 1 + zeros s.size := by simp [hn]; omega
      have h6 := L6 ((bytesOf s ++ [128]) ++ List.replicate (zeros s.size) 0) 8 (by omega) (by omega)
      refine Al2.succ (h6.diag.fst.mono fun k k1 e => ?_)
      have c1 : (((((bytesOf s ++ [128]) ++ List.replicate (zeros s.size) (0 : Int)).length : Int).tmod 64) != 56) = false := by
        rw [hlen, Int.tmod_eq_emod_of_nonneg (by omega), bne_eq_false_iff_eq]
        have : (s.size + 1 + zeros s.size) % 64 = 56 := by unfold zeros; omega
        omega
      rw [q0n.L2_eq, show decide ((64 : Int) ≠ 0) = true from rfl, q07, c1, q0e, hm]
      rw [padded, hn]
      rw [Nat.sub_self, List.take_zero, List.append_nil] at e
      exact e
    | succ d ih =>
      intro j hj
      have hlen : ((bytesOf s ++ [128]) ++ List.replicate j (0 : Int)).length = s.size + 1 + j := by simp [hn]; omega
      refine Al2.succ ((ih (j + 1) (by omega)).mono fun k k1 e => ?_)
      have c1 : (((((bytesOf s ++ [128]) ++ List.replicate j (0 : Int)).length : Int).tmod 64) != 56) = true := by
        rw [hlen, Int.tmod_eq_emod_of_nonneg (by omega), bne_iff_ne]
        have : (s.size + 1 + j) % 64 ≠ 56 := by unfold zeros at hj; omega
        omega
      have c2 : decide ((((bytesOf s ++ [128]) ++ List.replicate j (0 : Int)).length + [(0 : Int)].length) * 1 ≤ q1r) = true := decide_eq_true (by rw [hlen]; simp [q1r]; omega)
      rw [q0n.L2_eq, show decide ((64 : Int) ≠ 0) = true from rfl, q07, c1, q07, c2, q07]
      rw [List.replicate_succ', ← List.append_assoc] at e
      exact e
  refine (L2 (zeros s.size) 0 (by omega)).diag.mono fun k e => ?_
  rw [q0n.f_eq, decide_eq_true (by rw [hn]; simp [q1r]; omega), q07]
  rw [List.replicate_zero, List.append_nil] at e
  exact e
theorem qmp (s : ByteArray) : ∀ x ∈ padded (bytesOf s), 0 ≤ x ∧ x ≤ 255 := by
  intro x hx
  simp only [padded, q5w, qc0, List.mem_append, List.mem_replicate, List.mem_cons, List.not_mem_nil, or_false] at hx
  rcases hx with ((hx | hx) | hx) | hx
  · simp only [bytesOf, List.mem_map] at hx
    obtain ⟨b, _, rfl⟩ := hx
    have := b.toNat_lt
    omega
  · omega
  · omega
  · rcases hx with hx | hx | hx | hx | hx | hx | hx | hx <;> (rw [hx]; omega)
theorem qes (s : ByteArray) (hs : s.size ≤ 1099511627776) : Al fun k => q1d.f k s = some (qpl s) := by
  have hP := qmo s hs
  have hR := qmp s
  have h64 := qep (bytesOf s)
  have hlen : (padded (bytesOf s)).length ≤ 1099511628000 := by
    have hn : (bytesOf s).length = s.size := by rw [bytesOf, List.length_map, ← q4b]; rfl
    simp only [padded, q5w, zeros, List.length_append, List.length_replicate, List.length_cons, List.length_nil, hn]
    omega
  have hfin : qpl s = strOf (out (blocks kT ((padded (bytesOf s)).length / 64) H0 (padded (bytesOf s)))) := rfl
  generalize padded (bytesOf s) = P at hP hR h64 hlen hfin
  have L9 : ∀ v : List Int, v.length = 8 → Al fun k => q1d.L9 k k v ([] : List Int) 0 = some (strOf (out v)) := fun v hv => by
    have key := qav (Q := fun i => Al2 fun k k1 => q1d.L9 k k1 v (out (v.take i)) (i : Int) = some (strOf (out v))) 8
      (Al2.succ (Al2.now fun k k1 => by rw [q1d.L9_eq, List.take_of_length_le (by omega)]; exact q0e _ _)) (fun i hi hr => by
        refine Al2.succ (hr.mono fun k k1 e => ?_)
        have c0 : decide ((i : Int) < 8) = true := decide_eq_true (by omega)
        have g1 : (decide (0 ≤ (i : Int)) && decide ((i : Int) < (v.length : Int))) = true := gd (by omega)
        have a1 : w64 ((i : Int) + 1) = ((i + 1 : Nat) : Int) := qer i 1 (by omega)
        have ho := qdj (v.take i)
        rw [List.length_take] at ho
        have hz : ∀ a b c d : Int, decide (((out (v.take i)).length + [a, b, c, d].length) * 1 ≤ q1r) = true := fun a b c d => decide_eq_true (by rw [ho]; simp [q1r]; omega)
        have f24 : ∀ x : Int, IntKind.u8.wrap (x.fdiv (2 ^ (min (24 : Int).toNat 32))) = x / 16777216 % 256 := fun x => by rw [fd]; rfl
        have f16 : ∀ x : Int, IntKind.u8.wrap (x.fdiv (2 ^ (min (16 : Int).toNat 32))) = x / 65536 % 256 := fun x => by rw [fd]; rfl
        have f8 : ∀ x : Int, IntKind.u8.wrap (x.fdiv (2 ^ (min (8 : Int).toNat 32))) = x / 256 % 256 := fun x => by rw [fd]; rfl
        simp only [q1d.L9_eq, c0, q07, g1, show decide ((0 : Int) ≤ 24) = true from rfl, show decide ((0 : Int) ≤ 16) = true from rfl, show decide ((0 : Int) ≤ 8) = true from rfl, hz, f24, f16, f8, w8, a1, show (i : Int).toNat = i from rfl, qon v i (by omega)]
        exact e)
    exact (key 0 (by omega)).diag
  have L4 : ∀ (q : Nat) (sv : List Int) (i : Nat), sv.length = 8 → i + 64 * q = P.length → Al2 fun k k1 => q1d.L4 k k1 sv P (i : Int) = some (strOf (out (blocks kT q sv (P.drop i)))) := by
    intro q
    induction q with
    | zero =>
      intro sv i h8 hi
      refine Al2.succ ((L9 sv h8).fst.mono fun k k1 e => ?_)
      rw [q1d.L4_eq, decide_eq_false (by omega), q0e]
      exact e
    | succ q ih =>
      intro sv i h8 hi
      have hT : (P.take (i + 64)).drop i = (P.drop i).take 64 := by rw [List.drop_take]; congr 1; omega
      have hb := qot sv ((P.drop i).take 64) h8 (by rw [List.length_take, List.length_drop]; omega) (fun x hx => hR x (List.mem_of_mem_drop (List.mem_of_mem_take hx)))
      have hn := ih (block kT sv ((P.drop i).take 64)) (i + 64) (qas _ _ _ h8) (by omega)
      refine Al2.succ ((hb.snd.and hn).mono fun k k1 ⟨e, e2⟩ => ?_)
      have a1 : w64 ((i : Int) + 64) = ((i + 64 : Nat) : Int) := qer i 64 (by omega)
      rw [q1d.L4_eq, decide_eq_true (by omega), q07, a1, decide_eq_true (by omega), decide_eq_true (by omega), decide_eq_true (by omega), Bool.and_self, Bool.and_self, q07, show ((i + 64 : Nat) : Int).toNat = i + 64 from rfl, show (i : Int).toNat = i from rfl, hT, e, Option.bind_some, e2]
      rw [blocks, List.drop_drop]
  refine (hP.and (L4 (P.length / 64) H0 0 rfl (by omega)).diag).mono fun k ⟨e, e2⟩ => ?_
  rw [q1d.f_eq, e, Option.bind_some, hfin]
  exact e2
end Go.Proofs.YtjfkeknnjjlepaaGreatDoor.Rf
end

section
namespace Go.Proofs.YtjfkeknnjjlepaaGreatDoor.Rf
open Go Go.RowKit
set_option linter.unusedVariables false
set_option linter.unusedSimpArgs false
theorem qmq (a : ByteArray) (h : a.size ≤ 9223372036854775807) : ((some (decide ((1 : Int) ≤ (a.size : Int)) && decide ((a.size : Int) ≤ (64 : Int))) : Option Bool).bind fun (r0 : Bool) => ifb r0 (ifb (decide (0 ≤ (w64 ((a.size : Int) - 1))) && decide ((w64 ((a.size : Int) - 1)) < (a.size : Int))) (some ((q33 a (w64 ((a.size : Int) - 1))) != (0 : Int))) (none)) (some false)) = some (qoo a) := by
  rw [Option.bind_some]
  unfold qoo
  by_cases hz : 1 ≤ a.size ∧ a.size ≤ 64
  · have e : w64 ((a.size : Int) - 1) = ((a.size - 1 : Nat) : Int) := by rw [w64, q5i (by omega) (by omega)]; omega
    rw [decide_eq_true (show (1 : Int) ≤ (a.size : Int) by omega), decide_eq_true (show (a.size : Int) ≤ 64 by omega), Bool.and_self, q07, e, decide_eq_true (show (0 : Int) ≤ ((a.size - 1 : Nat) : Int) by omega), decide_eq_true (show ((a.size - 1 : Nat) : Int) < (a.size : Int) by omega), Bool.and_self, q07, q4c (by omega), decide_eq_true hz, Bool.true_and]
    congr 1
    by_cases h0 : bN a (a.size - 1) = 0
    · rw [h0]; rfl
    · rw [decide_eq_false h0, Bool.not_false, bne_iff_ne]; omega
  · have e : (decide ((1 : Int) ≤ (a.size : Int)) && decide ((a.size : Int) ≤ 64)) = false := by
      rw [Bool.and_eq_false_iff]
      by_cases h1 : 1 ≤ a.size
      · exact .inr (decide_eq_false (by omega))
      · exact .inl (decide_eq_false (by omega))
    rw [e, q0e, decide_eq_false hz, Bool.false_and]
theorem qj6 (k : Nat) (a : ByteArray) (h : a.size ≤ 9223372036854775807) : q3m.f k a = some (qoo a) := by
  rw [q3m.f_eq, q8y]
  exact qmq a h
def HX : ByteArray := ⟨#[48, 49, 50, 51, 52, 53, 54, 55, 56, 57, 97, 98, 99, 100, 101, 102]⟩
def qpn (s : ByteArray) : Nat → List Int
  | 0 => []
  | n + 1 => qpn s n ++ [q33 HX (IntKind.u8.wrap ((q33 s (n : Int)).tdiv 16)), q33 HX ((q33 s (n : Int)).tmod 16)]
def qqz (s : ByteArray) : ByteArray := strOf (qpn s s.size)
theorem q90 (s : ByteArray) : ∀ n, (qpn s n).length = 2 * n
  | 0 => rfl
  | n + 1 => by simp only [qpn, List.length_append, q90 s n, List.length_cons, List.length_nil]; omega
theorem qgr (l : List Int) : (strOf l).size = l.length := by simp [strOf, ByteArray.size]
theorem qgs (s : ByteArray) : (qqz s).size = 2 * s.size := by rw [qqz, qgr, q90]
theorem qou : ∀ n : Fin 16, IntKind.u8.wrap ((n.val : Nat) : Int) = (n.val : Int) := by decide
theorem qmr (s : ByteArray) {i : Nat} (hi : i < s.size) : decide ((0 : Int) ≤ IntKind.u8.wrap ((q33 s (i : Int)).tdiv 16)) = true ∧ decide (IntKind.u8.wrap ((q33 s (i : Int)).tdiv 16) < (16 : Int)) = true ∧ decide ((0 : Int) ≤ (q33 s (i : Int)).tmod 16) = true ∧ decide ((q33 s (i : Int)).tmod 16 < (16 : Int)) = true := by
  rw [q4c hi]
  have hb : bN s i < 256 := by unfold bN; exact UInt8.toNat_lt _
  have e1 : ((bN s i : Nat) : Int).tdiv 16 = ((bN s i / 16 : Nat) : Int) := rfl
  have e2 : ((bN s i : Nat) : Int).tmod 16 = ((bN s i % 16 : Nat) : Int) := rfl
  have e3 := qou ⟨bN s i / 16, by omega⟩
  rw [e1, e2, e3]
  exact ⟨decide_eq_true (by omega), decide_eq_true (by simp only; omega), decide_eq_true (by omega), decide_eq_true (by omega)⟩
theorem qdl (s : ByteArray) (hs : s.size ≤ 1099511627776) : Al fun k => q2c.f k s = some (qqz s) := by
  have key := qav (Q := fun i => Al2 fun k k1 => q2c.L4 k k1 s HX (qpn s i) (i : Int) = some (qqz s)) s.size
    (Al2.succ (Al2.now fun k k1 => by rw [q2c.L4_eq, at_end (Nat.lt_irrefl _), q0e]; rfl)) (fun i hi h => by
      obtain ⟨c1, c2, c3, c4⟩ := q5y hi (by omega)
      obtain ⟨f1, f2, f3, f4⟩ := qmr s hi
      refine Al2.succ (h.mono fun k k1 e => ?_)
      have m1 : decide (((qpn s i).length + [q33 HX (IntKind.u8.wrap ((q33 s (i : Int)).tdiv 16)), q33 HX ((q33 s (i : Int)).tmod 16)].length) * 1 ≤ q1r) = true := decide_eq_true (by rw [q90]; simp [q1r]; omega)
      rw [q2c.L4_eq]
      show ifb _ (ifb _ (ifb _ (ifb (decide (0 ≤ (IntKind.u8.wrap ((q33 s (i : Int)).tdiv (16 : Int)))) && decide ((IntKind.u8.wrap ((q33 s (i : Int)).tdiv (16 : Int))) < (16 : Int))) (ifb _ (ifb _ (ifb (decide (0 ≤ ((q33 s (i : Int)).tmod (16 : Int))) && decide (((q33 s (i : Int)).tmod (16 : Int)) < (16 : Int))) (ifb (decide (((qpn s i).length + [q33 HX (IntKind.u8.wrap ((q33 s (i : Int)).tdiv 16)), q33 HX ((q33 s (i : Int)).tmod 16)].length) * 1 ≤ q1r)) (q2c.L4 k k1 s HX (qpn s (i + 1)) (w64 ((i : Int) + 1))) none) none) none) none) none) none) none) _ = _
      simp only [c1, c2, f1, f2, f3, f4, m1, Bool.and_self, q07, show decide ((16 : Int) ≠ 0) = true from rfl, w64, c4, e]) 0 (Nat.zero_le _)
  exact key.diag.mono fun k e => by rw [q2c.f_eq]; exact e
theorem qcl (s : ByteArray) : (qpl s).size = 32 := Go.Proofs.YtjfkeknnjjlepaaGreatDoor.M.qdk s
def q7e (s : ByteArray) : ByteArray := qqz (qpl s)
theorem q61 (s : ByteArray) : (q7e s).size = 64 := by rw [q7e, qgs, qcl]
theorem q7f (s : ByteArray) (hs : s.size ≤ 1099511627776) : Al fun k => q2s.f k s = some (q7e s) :=
  ((qes s hs).and (qdl (qpl s) (by rw [qcl]; decide))).mono fun k ⟨e0, e⟩ => by
    rw [q2s.f_eq, e0, Option.bind_some, e]
    rfl
def qhz (key text : ByteArray) : ByteArray := if qoo key then qqz (Go.Proofs.YtjfkeknnjjlepaaGreatDoor.M.qso key text) else bz
theorem qms {a : ByteArray} (h : qoo a = true) : 1 ≤ a.size ∧ a.size ≤ 64 := by
  simp only [qoo, Bool.and_eq_true, decide_eq_true_eq] at h
  exact h.1
theorem qgt (a b : ByteArray) : (Go.Proofs.YtjfkeknnjjlepaaGreatDoor.M.qso a b).size = 32 := Go.Proofs.YtjfkeknnjjlepaaGreatDoor.M.qdk _
end Go.Proofs.YtjfkeknnjjlepaaGreatDoor.Rf
end

section
namespace Go.Proofs.YtjfkeknnjjlepaaGreatDoor.Rf
open Go Go.RowKit
set_option linter.unusedVariables false
set_option linter.unusedSimpArgs false
open Go.Proofs.YtjfkeknnjjlepaaGreatDoor.M in
theorem qr0 (key : ByteArray) (i : Nat) : (qj4 key).getD i 0 = if i < key.size then q33 key (i : Int) else 0 := by
  have hl : (Rf.bytesOf key).length = key.size := by simp [Rf.bytesOf]
  simp only [qj4, List.getD_eq_getElem?_getD]
  by_cases h : i < key.size
  · rw [List.getElem?_append_left (by rw [hl]; exact h), if_pos h, q4c h]
    have h' : i < (bl key).length := by rw [q4b]; exact h
    simp [Rf.bytesOf, h, bN, bl, List.getD_eq_getElem?_getD, List.getElem?_eq_getElem h']
  · rw [List.getElem?_append_right (by rw [hl]; omega), if_neg h, List.getElem?_replicate]
    split <;> rfl
open Go.Proofs.YtjfkeknnjjlepaaGreatDoor.M in
theorem qpo (key : ByteArray) (c : Int) (hk : key.size ≤ 64) : Al fun k => q1q.f k key c = some (qk5 key c) := by
  have hl : ((qj4 key).map fun b => Go.bits .xor .u8 b c).length = 64 := by rw [List.length_map, q8z _ hk]
  have key2 := qav (Q := fun i => Al2 fun k k1 => q1q.L3 k k1 key c (((qj4 key).map fun b => Go.bits .xor .u8 b c).take i) (i : Int) = some (qk5 key c)) 64
    (Al2.succ (Al2.now fun k k1 => by
      rw [q1q.L3_eq, show decide (((64 : Nat) : Int) < 64) = false from rfl, q0e, List.take_of_length_le (by omega)]; rfl)) (fun i hi h => by
      have c4 : IntKind.i64.wrap ((i : Int) + 1) = ((i + 1 : Nat) : Int) := by rw [q5i (by omega) (by omega)]; omega
      have hsn : ((qj4 key).map fun b => Go.bits .xor .u8 b c).take (i + 1) = ((qj4 key).map fun b => Go.bits .xor .u8 b c).take i ++ [Go.bits .xor .u8 ((qj4 key).getD i 0) c] := by
        rw [List.take_succ_eq_append_getElem (by omega)]
        have hi2 : i < (qj4 key).length := by rw [q8z _ hk]; exact hi
        simp [List.getD_eq_getElem?_getD, hi2]
      have j8 : ∀ x, x = (qj4 key).getD i 0 → Al3 fun k k1 k2 => q1q.J8 k k1 k2 key c (((qj4 key).map fun b => Go.bits .xor .u8 b c).take i) (i : Int) x = some (qk5 key c) := fun x hx => by
        refine Al3.succ (h.fst.mono fun k k1 k2 e => ?_)
        have m1 : ∀ y : Int, decide (((((qj4 key).map fun b => Go.bits .xor .u8 b c).take i).length + [y].length) * 1 ≤ q1r) = true := fun y => decide_eq_true (by rw [List.length_take]; simp [q1r]; omega)
        rw [q1q.J8_eq, m1, q07, w64, c4]
        rw [hsn] at e
        subst hx
        exact e
      have hlt : decide ((i : Int) < 64) = true := decide_eq_true (by omega)
      refine Al2.succ ((j8 _ rfl).in2.mono fun k k1 e => ?_)
      rw [qr0] at e
      by_cases hi2 : i < key.size
      · rw [if_pos hi2] at e
        rw [q1q.L3_eq, hlt, q07, decide_eq_true (show (i : Int) < (key.size : Int) by omega), q07, decide_eq_true (show (0 : Int) ≤ (i : Int) by omega), Bool.and_self, q07]
        exact e
      · rw [if_neg hi2] at e
        rw [q1q.L3_eq, hlt, q07, decide_eq_false (show ¬ (i : Int) < (key.size : Int) by omega), q0e]
        exact e) 0 (Nat.zero_le _)
  exact key2.diag.mono fun k e => by rw [q1q.f_eq]; exact e
theorem qgu (key : ByteArray) (c : Int) (hk : key.size ≤ 64) : (Go.Proofs.YtjfkeknnjjlepaaGreatDoor.M.qk5 key c).size = 64 := by
  rw [Go.Proofs.YtjfkeknnjjlepaaGreatDoor.M.qk5, qgr, List.length_map, Go.Proofs.YtjfkeknnjjlepaaGreatDoor.M.q8z _ hk]
theorem qi0 (key text : ByteArray) (hk : key.size ≤ 9223372036854775807) (ht : text.size ≤ 549755813888) : Al fun k => q3h.f k key text = some (qhz key text) := by
  have e1 := fun k => qj6 k key hk
  unfold qhz
  cases h : qoo key with
  | false => exact Al.now fun k => by rw [q3h.f_eq, e1, h, Option.bind_some, Bool.not_false, q07]; rfl
  | true =>
    have hk2 := (qms h).2
    have z1 := qgu key 92 hk2
    have z2 := qgu key 54 hk2
    have z3 := qcl (Go.Proofs.YtjfkeknnjjlepaaGreatDoor.M.qk5 key 54 ++ text)
    have s1 := qes (Go.Proofs.YtjfkeknnjjlepaaGreatDoor.M.qk5 key 54 ++ text) (by rw [ByteArray.size_append]; omega)
    have s2 := qes (Go.Proofs.YtjfkeknnjjlepaaGreatDoor.M.qk5 key 92 ++ qpl (Go.Proofs.YtjfkeknnjjlepaaGreatDoor.M.qk5 key 54 ++ text)) (by rw [ByteArray.size_append]; omega)
    refine (((qpo key 92 hk2).and (qpo key 54 hk2)).and ((s1.and s2).and (qdl (Go.Proofs.YtjfkeknnjjlepaaGreatDoor.M.qso key text) (by rw [qgt]; decide)))).mono fun k ⟨⟨p1, p2⟩, ⟨q1, q2⟩, e⟩ => ?_
    rw [q3h.f_eq, e1, h, Option.bind_some, Bool.not_true, q0e, p1, Option.bind_some, p2, Option.bind_some, q3j (by omega), q07,
      q1, Option.bind_some, q3j (by omega), q07, q2, Option.bind_some]
    have e' : q2c.f k (qpl (Go.Proofs.YtjfkeknnjjlepaaGreatDoor.M.qk5 key 92 ++ qpl (Go.Proofs.YtjfkeknnjjlepaaGreatDoor.M.qk5 key 54 ++ text))) = some (qqz (Go.Proofs.YtjfkeknnjjlepaaGreatDoor.M.qso key text)) := e
    rw [e', Option.bind_some, if_pos rfl]
theorem qdm (a b : ByteArray) : (qhz a b).size ≤ 64 := by
  unfold qhz
  split
  · rw [qgs, qgt]; omega
  · show 0 ≤ _; omega
theorem qmt {n : Int} {d : Delta} {s : ByteArray} (h0 : 0 ≤ n) (h1 : n ≤ 999999) (hd : q47 d = true) (hs : s.size ≤ 1000000) : (qf2 n d s).size ≤ 30000000 := by
  have zd := qcf (qgd hd)
  have zi := qch h0 (show n ≤ 9223372036854775807 by omega)
  rw [q44] at zd hs
  rw [qf2, size_mk]
  simp only [List.length_append, List.length_cons, List.length_nil]
  omega
end Go.Proofs.YtjfkeknnjjlepaaGreatDoor.Rf
end

section
namespace Go.Proofs.YtjfkeknnjjlepaaGreatDoor.Rf
open Go Go.RowKit
set_option linter.unusedVariables false
set_option linter.unusedSimpArgs false
theorem qj7 (a b : En) : ((a.1.toList == b.1.toList) && (a.2.toList == b.2.toList)) = decide (a = b) := by
  rw [q5l, q5l, Bool.eq_iff_iff]
  simp only [Bool.and_eq_true, decide_eq_true_eq]
  exact ⟨fun ⟨h1, h2⟩ => Prod.ext h1 h2, fun h => h ▸ ⟨rfl, rfl⟩⟩
theorem qa9 (l m : List Aff) (hl : Sm l.length) : Al fun k => q13.f k l m = some (decide (l = m)) := by
  by_cases hlen : l.length = m.length
  case neg =>
    refine Al.now fun k => ?_
    rw [q13.f_eq, show ((l.length : Int) != (m.length : Int)) = true by rw [bne_iff_ne]; omega, q07, decide_eq_false fun e => hlen (by rw [e])]
  have key : ∀ (t : List Aff) (i : Nat), l.drop i = t → Al2 fun k k1 => q13.L4 k k1 l m (i : Int) = some (decide (t = m.drop i)) := by
    intro t
    induction t with
    | nil =>
      intro i hd
      have he := drop_nil hd
      refine Al2.succ (Al2.now fun k k1 => ?_)
      rw [q13.L4_eq, at_end he, q0e, List.drop_eq_nil_of_le (show m.length ≤ i by omega), decide_eq_true rfl]
    | cons x t ih =>
      intro i hd
      obtain ⟨hi, g1, g2⟩ := q3p zA hd
      obtain ⟨c1, c2, c3, c4⟩ := q5y hi hl
      have hm : i < m.length := by omega
      have hmd : m.drop i = m[i] :: m.drop (i + 1) := List.drop_eq_getElem_cons hm
      have gm : m.getD i zA = m[i] := by rw [List.getD_eq_getElem?_getD, List.getElem?_eq_getElem hm]; rfl
      have cm : decide ((i : Int) < (m.length : Int)) = true := decide_eq_true (by omega)
      refine Al2.succ ((ih (i + 1) g2).mono fun k k1 e => ?_)
      simp only [q13.L4_eq, c1, c2, c3, w64, c4, g1, cm, gm, Bool.and_self, q07, e, qe9, hmd]
      by_cases h : x = m[i]
      · rw [decide_eq_true h, Bool.not_true, q0e]
        exact congrArg some (decide_eq_decide.2 ⟨fun e => by rw [h, e], fun e => (List.cons.inj e).2⟩)
      · rw [decide_eq_false h, Bool.not_false, q07]
        exact congrArg some (decide_eq_false fun e => h (List.cons.inj e).1).symm
  refine (key l 0 rfl).diag.mono fun k e => ?_
  rw [q13.f_eq, show ((l.length : Int) != (m.length : Int)) = false by rw [hlen]; simp, q0e, show (0 : Int) = ((0 : Nat) : Int) from rfl, e]
  rfl
def qpp (l : List En) (e : En) : Bool := !q67 l e.1 || !decide (l.getD (atE l e.1) zE = e)
def q7z (a b : Book) : List ByteArray := (a.2.filter fun e => !q67 b.2 e.1).map fun e => e.1
def q80 (a b : Book) : List En := b.2.filter fun e => qpp a.2 e
def q4h (a b : Book) : Delta := if q5n a && q5n b then (q7z a b, q80 a b, !decide (a.1 = b.1), if a.1 = b.1 then [] else b.1) else ([], [], false, [])
theorem qet {l : List En} {s : ByteArray} (h : q67 l s = true) : atE l s < l.length := by
  unfold q67 at h
  split at h
  · rename_i e t hd
    refine Decidable.byContradiction fun hn => ?_
    rw [List.drop_eq_nil_of_le (by omega)] at hd
    cases hd
  · cases h
theorem q81 (a b : Book) (ha : smB a) (hb : smB b) : Al fun k => q0j.f k a b = some (q4h a b) := by
  have e0 := (q4x a ha).and (q4x b hb)
  cases h1 : q5n a with
  | false => exact e0.mono fun k ⟨e1, e2⟩ => by simp only [q0j.f_eq, e1, h1, Option.bind_some, Bool.not_false, q07, q4h, Bool.false_and, Bool.false_eq_true, if_false]
  | true =>
  cases h2 : q5n b with
  | false => exact e0.mono fun k ⟨e1, e2⟩ => by simp only [q0j.f_eq, e1, e2, h1, h2, Option.bind_some, Bool.not_false, Bool.not_true, q07, q0e, q4h, Bool.true_and, Bool.false_eq_true, if_false]
  | true =>
  obtain ⟨n1, n2⟩ := qgq h1
  obtain ⟨n3, n4⟩ := qgq h2
  have sA : Sm a.2.length := by unfold Sm; omega
  have sB : Sm b.2.length := by unfold Sm; omega
  have sF : Sm a.1.length := by unfold Sm; omega
  have two : ∀ (t : List En) (i : Nat) (g : List ByteArray) (c : List En), b.2.drop i = t → c ++ (t.filter fun e => qpp a.2 e) = q80 a b → c.length ≤ i →
      Al2 fun k k1 => q0j.L11 k k1 a b ([], [], false, []) (g, c, false, []) (i : Int) = some (g, q80 a b, !decide (a.1 = b.1), if a.1 = b.1 then [] else b.1) := by
    intro t
    induction t with
    | nil =>
      intro i g c hd hc hl
      refine Al2.succ ((qa9 a.1 b.1 sF).fst.mono fun k k1 e => ?_)
      rw [List.filter_nil, List.append_nil] at hc
      subst hc
      have m1 : decide ((([] : List Aff).length + b.1.length) * 72 ≤ q1r) = true := decide_eq_true (by simp [q1r]; omega)
      simp only [q0j.L11_eq, at_end (drop_nil hd), q0e, e, Option.bind_some, m1, q07, List.nil_append]
      by_cases h : a.1 = b.1 <;> simp [h, q07, q0e]
    | cons x t ih =>
      intro i g c hd hc hl
      obtain ⟨hi, g1, g2⟩ := q3p zE hd
      obtain ⟨c1, c2, c3, c4⟩ := q5y hi sB
      have m1 : decide ((c.length + [x].length) * 32 ≤ q1r) = true := decide_eq_true (by simp [q1r]; omega)
      have r0 : decide ((0 : Int) ≤ (atE a.2 x.1 : Int)) = true := decide_eq_true (by omega)
      cases hn : qpp a.2 x with
      | true =>
        rw [List.filter_cons_of_pos (by simpa using hn)] at hc
        refine Al2.succ (((q6h a.2 x.1 sA).snd.and (ih (i + 1) g (c ++ [x]) g2 (by simpa using hc) (by simp; omega))).mono fun k k1 ⟨e1, e2⟩ => ?_)
        cases ht : q67 a.2 x.1 with
        | false => simp only [q0j.L11_eq, c1, c2, c3, w64, c4, g1, Bool.and_self, q07, e1, Option.bind_some, ht, Bool.not_false, m1, e2]
        | true =>
          have r1 : decide ((atE a.2 x.1 : Int) < (a.2.length : Int)) = true := decide_eq_true (by have := qet ht; omega)
          have hne : decide (a.2.getD (atE a.2 x.1) zE = x) = false := by simpa [qpp, ht] using hn
          simp only [q0j.L11_eq, c1, c2, c3, w64, c4, g1, Bool.and_self, q07, e1, Option.bind_some, ht, Bool.not_true, q0e, r0, r1, Int.toNat_natCast, qj7, hne, Bool.not_false, m1, e2]
      | false =>
        rw [List.filter_cons_of_neg (by simpa using hn)] at hc
        refine Al2.succ (((q6h a.2 x.1 sA).snd.and (ih (i + 1) g c g2 hc (by omega))).mono fun k k1 ⟨e1, e2⟩ => ?_)
        have ht : q67 a.2 x.1 = true := by
          cases h : q67 a.2 x.1 with
          | true => rfl
          | false => simp [qpp, h] at hn
        have r1 : decide ((atE a.2 x.1 : Int) < (a.2.length : Int)) = true := decide_eq_true (by have := qet ht; omega)
        have hne : decide (a.2.getD (atE a.2 x.1) zE = x) = true := by simpa [qpp, ht] using hn
        simp only [q0j.L11_eq, c1, c2, c3, w64, c4, g1, Bool.and_self, q07, e1, Option.bind_some, ht, Bool.not_true, q0e, r0, r1, Int.toNat_natCast, qj7, hne, e2]
  have one : ∀ (t : List En) (i : Nat) (g : List ByteArray), a.2.drop i = t → g ++ ((t.filter fun e => !q67 b.2 e.1).map fun e => e.1) = q7z a b → g.length ≤ i →
      Al2 fun k k1 => q0j.L5 k k1 a b ([], [], false, []) (g, [], false, []) (i : Int) = some (q7z a b, q80 a b, !decide (a.1 = b.1), if a.1 = b.1 then [] else b.1) := by
    intro t
    induction t with
    | nil =>
      intro i g hd hg hl
      refine Al2.succ ((two b.2 0 g [] rfl (by simp [q80]) (by simp)).diag.fst.mono fun k k1 e => ?_)
      simp only [List.filter_nil, List.map_nil, List.append_nil] at hg
      subst hg
      simp only [q0j.L5_eq, at_end (drop_nil hd), q0e]
      exact e
    | cons x t ih =>
      intro i g hd hg hl
      obtain ⟨hi, g1, g2⟩ := q3p zE hd
      obtain ⟨c1, c2, c3, c4⟩ := q5y hi sA
      have m1 : decide ((g.length + [x.1].length) * 16 ≤ q1r) = true := decide_eq_true (by simp [q1r]; omega)
      cases ht : q67 b.2 x.1 with
      | false =>
        rw [List.filter_cons_of_pos (by simp [ht])] at hg
        refine Al2.succ (((q6h b.2 x.1 sB).snd.and (ih (i + 1) (g ++ [x.1]) g2 (by simpa using hg) (by simp; omega))).mono fun k k1 ⟨e1, e2⟩ => ?_)
        simp only [q0j.L5_eq, c1, c2, c3, w64, c4, g1, Bool.and_self, q07, e1, Option.bind_some, ht, Bool.not_false, m1, e2]
      | true =>
        rw [List.filter_cons_of_neg (by simp [ht])] at hg
        refine Al2.succ (((q6h b.2 x.1 sB).snd.and (ih (i + 1) g g2 hg (by omega))).mono fun k k1 ⟨e1, e2⟩ => ?_)
        simp only [q0j.L5_eq, c1, c2, c3, w64, c4, g1, Bool.and_self, q07, e1, Option.bind_some, ht, Bool.not_true, q0e, e2]
  refine (e0.and (one a.2 0 [] rfl (by simp [q7z]) (by simp)).diag).mono fun k ⟨⟨e1, e2⟩, e3⟩ => ?_
  simp only [q0j.f_eq, e1, e2, h1, h2, Option.bind_some, Bool.not_true, q0e, q4h, Bool.and_self, if_true]
  exact e3
end Go.Proofs.YtjfkeknnjjlepaaGreatDoor.Rf
end

section
namespace Go.Proofs.YtjfkeknnjjlepaaGreatDoor.Rf
open Go Go.RowKit
set_option linter.unusedVariables false
set_option linter.unusedSimpArgs false
theorem qov {l : List En} (h : l.Pairwise fun a b => ltE a b = true) (e : En) : qpp l e = !(l.any fun x => decide (x = e)) := by
  unfold qpp
  cases ht : q67 l e.1 with
  | false =>
    rw [qgp h] at ht
    have : (l.any fun x => decide (x = e)) = false := by
      rw [List.any_eq_false]
      intro x hx hxe
      have hxe : x = e := of_decide_eq_true hxe
      subst hxe
      have h2 := List.any_eq_false.1 ht x hx
      simp at h2
    rw [this]; rfl
  | true =>
    have hat := qet ht
    have hg : l.getD (atE l e.1) zE = l[atE l e.1] := by rw [List.getD_eq_getElem?_getD, List.getElem?_eq_getElem hat]; rfl
    have h1 : (l[atE l e.1]).1 = e.1 := by
      unfold q67 at ht
      rw [List.drop_eq_getElem_cons hat] at ht
      exact of_decide_eq_true ht
    rw [hg, Bool.not_true, Bool.false_or]
    congr 1
    rw [Bool.eq_iff_iff, decide_eq_true_eq, List.any_eq_true]
    constructor
    · intro h2
      exact ⟨_, List.getElem_mem hat, by simp [h2]⟩
    · rintro ⟨x, hx, hxe⟩
      have hxe : x = e := of_decide_eq_true hxe
      subst hxe
      obtain ⟨i, hi, hxi⟩ := List.mem_iff_getElem.1 hx
      rcases Nat.lt_trichotomy i (atE l x.1) with hlt | heq | hgt
      · have := List.pairwise_iff_getElem.1 h i _ hi hat hlt
        exact absurd (by rw [hxi, h1]) (qpm this)
      · subst heq; exact hxi
      · have := List.pairwise_iff_getElem.1 h _ i hat hi hgt
        exact absurd (by rw [hxi, h1]) (qpm this)
end Go.Proofs.YtjfkeknnjjlepaaGreatDoor.Rf
end

section
namespace Go.Proofs.YtjfkeknnjjlepaaGreatDoor.Rf
open Go Go.RowKit
set_option linter.unusedVariables false
set_option linter.unusedSimpArgs false
theorem qmu {l : List En} {s : ByteArray} : qd8 l s = true ↔ ∃ e ∈ l, e.1 = s := by
  unfold qd8
  rw [List.any_eq_true]
  exact ⟨fun ⟨e, h1, h2⟩ => ⟨e, h1, of_decide_eq_true h2⟩, fun ⟨e, h1, h2⟩ => ⟨e, h1, decide_eq_true h2⟩⟩
theorem qj8 {a b : Book} (hb : q5n b = true) {s : ByteArray} : s ∈ q7z a b ↔ (∃ e ∈ a.2, e.1 = s) ∧ ¬ ∃ e ∈ b.2, e.1 = s := by
  unfold q7z
  simp only [List.mem_map, List.mem_filter, qgp (qeq hb), Bool.not_eq_true', ← Bool.not_eq_true, qmu]
  constructor
  · rintro ⟨e, ⟨h1, h2⟩, rfl⟩; exact ⟨⟨e, h1, rfl⟩, h2⟩
  · rintro ⟨⟨e, h1, rfl⟩, h2⟩; exact ⟨e, ⟨h1, h2⟩, rfl⟩
theorem qgv {a b : Book} (ha : q5n a = true) {e : En} : e ∈ q80 a b ↔ e ∈ b.2 ∧ e ∉ a.2 := by
  unfold q80
  simp only [List.mem_filter, qov (qeq ha), Bool.not_eq_true', ← Bool.not_eq_true, List.any_eq_true, decide_eq_true_eq]
  exact ⟨fun ⟨h1, h2⟩ => ⟨h1, fun h => h2 ⟨e, h, rfl⟩⟩, fun ⟨h1, h2⟩ => ⟨h1, fun ⟨x, h3, h4⟩ => h2 (h4 ▸ h3)⟩⟩
end Go.Proofs.YtjfkeknnjjlepaaGreatDoor.Rf
end

section
namespace Go.Proofs.YtjfkeknnjjlepaaGreatDoor.Rf
open Go Go.RowKit
set_option linter.unusedVariables false
set_option linter.unusedSimpArgs false
abbrev Asc (l : List En) : Prop := l.Pairwise fun a b => ltE a b = true
abbrev qte (l : List ByteArray) : Prop := l.Pairwise fun a b => ltS a b = true
theorem qt3 {l : List En} {s : ByteArray} : qd8 l s = false ↔ ¬ ∃ e ∈ l, e.1 = s := by rw [← Bool.not_eq_true, qmu]
theorem qk7 {a b : Book} (ha : q5n a = true) (hb : q5n b = true) : q4h a b = (q7z a b, q80 a b, !decide (a.1 = b.1), if a.1 = b.1 then [] else b.1) := by simp only [q4h, ha, hb, Bool.and_self, if_true]
theorem qeu {l : List En} : q69 l = true ↔ (∀ e ∈ l, q7u e = true) ∧ Asc l ∧ l.length ≤ 24 := by
  constructor
  · intro h
    refine ⟨fun e he => ?_, qj5 h, ?_⟩
    · simp only [q69, Bool.and_eq_true, q3s] at h
      obtain ⟨i, hi, rfl⟩ := List.mem_iff_getElem.1 he
      have := (h.1 i hi).1
      rwa [List.getD_eq_getElem?_getD, List.getElem?_eq_getElem hi] at this
    · simp only [q69, Bool.and_eq_true, decide_eq_true_eq] at h; exact h.2
  · rintro ⟨h1, h2, h3⟩
    simp only [q69, Bool.and_eq_true, q3s, decide_eq_true_eq, Bool.or_eq_true]
    refine ⟨fun i hi => ⟨?_, ?_⟩, h3⟩
    · rw [List.getD_eq_getElem?_getD, List.getElem?_eq_getElem hi]; exact h1 _ (List.getElem_mem hi)
    · by_cases h0 : i = 0
      · exact .inl h0
      · refine .inr ?_
        have := List.pairwise_iff_getElem.1 h2 (i - 1) i (by omega) hi (by omega)
        rw [List.getD_eq_getElem?_getD, List.getD_eq_getElem?_getD, List.getElem?_eq_getElem hi, List.getElem?_eq_getElem (show i - 1 < l.length by omega)]
        exact this
theorem qow {l : List ByteArray} (h1 : ∀ s ∈ l, q5m s = true) (h2 : qte l) (h3 : l.length ≤ 24) : q8g l = true := by
  simp only [q8g, Bool.and_eq_true, q3s, decide_eq_true_eq, Bool.or_eq_true]
  refine ⟨fun i hi => ⟨?_, ?_⟩, h3⟩
  · rw [List.getD_eq_getElem?_getD, List.getElem?_eq_getElem hi]; exact h1 _ (List.getElem_mem hi)
  · by_cases h0 : i = 0
    · exact .inl h0
    · refine .inr ?_
      have := List.pairwise_iff_getElem.1 h2 (i - 1) i (by omega) hi (by omega)
      rw [List.getD_eq_getElem?_getD, List.getD_eq_getElem?_getD, List.getElem?_eq_getElem hi, List.getElem?_eq_getElem (show i - 1 < l.length by omega)]
      exact this
theorem qmv {l : List En} (h : q69 l = true) {e : En} (he : e ∈ l) : q5m e.1 = true := by
  have := (qeu.1 h).1 e he
  simp only [q7u, Bool.and_eq_true] at this
  exact this.2.1
theorem qgw {a b : Book} (ha : q5n a = true) (hb : q5n b = true) : q47 (q4h a b) = true := by
  rw [qk7 ha hb]
  have ha' := ha
  have hb' := hb
  simp only [q5n, Bool.and_eq_true] at ha' hb'
  simp only [q47, Bool.and_eq_true]
  refine ⟨qow (fun s hs => ?_) ?_ ?_, qeu.2 ⟨fun e he => ?_, (qeq hb).sublist List.filter_sublist, ?_⟩, ?_, ?_, List.all_eq_true.2 fun s hs => ?_⟩
  · obtain ⟨⟨e, he, rfl⟩, _⟩ := (qj8 hb).1 hs
    exact qmv ha'.2 he
  · unfold qte q7z
    rw [List.pairwise_map]
    exact (qeq ha).sublist List.filter_sublist
  · simp only [q7z, List.length_map]
    exact Nat.le_trans (List.length_filter_le _ _) (qgq ha).2
  · exact (qeu.1 hb'.2).1 e ((qgv ha).1 he).1
  · exact Nat.le_trans (List.length_filter_le _ _) (qgq hb).2
  · show q6t (if a.1 = b.1 then [] else b.1) = true
    by_cases h : a.1 = b.1
    · rw [if_pos h]; decide
    · rw [if_neg h]; exact hb'.1
  · by_cases h : a.1 = b.1 <;> simp [h]
  · rw [Bool.not_eq_true', qt3]
    rintro ⟨e, he, rfl⟩
    exact ((qj8 hb).1 hs).2 ⟨e, ((qgv ha).1 he).1, rfl⟩
end Go.Proofs.YtjfkeknnjjlepaaGreatDoor.Rf
end

section
namespace Go.Proofs.YtjfkeknnjjlepaaGreatDoor.Rf
open Go Go.RowKit
set_option linter.unusedVariables false
set_option linter.unusedSimpArgs false
theorem qk8 {b : Book} (h : tB b) : (q9o b).size ≤ 10000000 := by
  obtain ⟨⟨n1, s1⟩, n2, s2⟩ := h
  have h1 := qhn (ls := b.1.map q64) (n := 4100) fun p hp => by
    obtain ⟨a, ha, rfl⟩ := List.mem_map.1 hp
    exact q88 (s1 a ha)
  have h2 := qhn (ls := b.2.map q5o) (n := 2100) fun p hp => by
    obtain ⟨a, ha, rfl⟩ := List.mem_map.1 hp
    exact q9c (s2 a ha)
  rw [List.length_map] at h1 h2
  rw [q9o, size_mk, qcd, List.length_append]
  omega
theorem qev (b : Book) (h : tB b) : Al fun k => q1u.f k b = some (q9o b) := by
  obtain ⟨⟨n1, s1⟩, n2, s2⟩ := h
  have L7 : ∀ (t : List En) (i : Nat) (x : ByteArray), b.2.drop i = t → x.size + 5000 * t.length ≤ 20000000 → Al2 fun k k1 => q1u.L7 k k1 b x (i : Int) = some (mkB (bl x ++ nlB (t.map q5o))) := by
    intro t
    induction t with
    | nil =>
      intro i x hd hx
      refine Al2.succ (Al2.now fun k k1 => ?_)
      rw [q1u.L7_eq, at_end (drop_nil hd), q0e, List.map_nil, qhm, List.append_nil, q7n]
    | cons e t ih =>
      intro i x hd hx
      rw [List.length_cons] at hx
      obtain ⟨hi, g1, g2⟩ := q3p zE hd
      obtain ⟨c1, c2, c3, c4⟩ := q5y hi (by omega)
      have he : tE e := s2 e (List.mem_of_mem_drop (show e ∈ b.2.drop i by rw [hd]; simp))
      have hl := q9c he
      have z1 : (x ++ mkB (q5o e)).size = x.size + (q5o e).length := by rw [ByteArray.size_append, size_mk]
      have z2 : ((x ++ mkB (q5o e)) ++ (⟨#[10]⟩ : ByteArray)).size = x.size + (q5o e).length + 1 := by rw [ByteArray.size_append, z1]; rfl
      refine Al2.succ ((ih (i + 1) ((x ++ mkB (q5o e)) ++ (⟨#[10]⟩ : ByteArray)) g2 (by rw [z2]; omega)).mono fun k k1 e1 => ?_)
      simp only [q1u.L7_eq, c1, c2, c3, Bool.and_self, q07, g1, q9e _ e he, Option.bind_some, q3j (show x.size + (mkB (q5o e)).size ≤ 9223372036854775807 by rw [size_mk]; omega),
        q3j (show (x ++ mkB (q5o e)).size + (⟨#[10]⟩ : ByteArray).size ≤ 9223372036854775807 by rw [z1, q3o]; omega), w64, c4, e1]
      congr 2
      rw [q45, q45, q55, q3x]
      simp [q46]
  have L3 : ∀ (t : List Aff) (i : Nat) (x : ByteArray), b.1.drop i = t → x.size + 5000 * t.length ≤ 10000000 → Al2 fun k k1 => q1u.L3 k k1 b x (i : Int) = some (mkB (bl x ++ nlB (t.map q64 ++ b.2.map q5o))) := by
    intro t
    induction t with
    | nil =>
      intro i x hd hx
      rw [List.length_nil] at hx
      refine Al2.succ ((L7 b.2 0 x rfl (by omega)).diag.fst.mono fun k k1 e => ?_)
      rw [q1u.L3_eq, at_end (drop_nil hd), q0e]
      exact e
    | cons a t ih =>
      intro i x hd hx
      rw [List.length_cons] at hx
      obtain ⟨hi, g1, g2⟩ := q3p zA hd
      obtain ⟨c1, c2, c3, c4⟩ := q5y hi (by omega)
      have he : tA a := s1 a (List.mem_of_mem_drop (show a ∈ b.1.drop i by rw [hd]; simp))
      have hl := q88 he
      have z1 : (x ++ mkB (q64 a)).size = x.size + (q64 a).length := by rw [ByteArray.size_append, size_mk]
      have z2 : ((x ++ mkB (q64 a)) ++ (⟨#[10]⟩ : ByteArray)).size = x.size + (q64 a).length + 1 := by rw [ByteArray.size_append, z1]; rfl
      refine Al2.succ (((q9d a he).snd.and (ih (i + 1) ((x ++ mkB (q64 a)) ++ (⟨#[10]⟩ : ByteArray)) g2 (by rw [z2]; omega))).mono fun k k1 ⟨e0, e1⟩ => ?_)
      simp only [q1u.L3_eq, c1, c2, c3, Bool.and_self, q07, g1, e0, Option.bind_some, q3j (show x.size + (mkB (q64 a)).size ≤ 9223372036854775807 by rw [size_mk]; omega),
        q3j (show (x ++ mkB (q64 a)).size + (⟨#[10]⟩ : ByteArray).size ≤ 9223372036854775807 by rw [z1, q3o]; omega), w64, c4, e1]
      congr 2
      rw [q45, q45, q55, q3x]
      simp [q46]
  have hz : bz.size = 0 := rfl
  refine (L3 b.1 0 bz rfl (by omega)).diag.mono fun k e1 => ?_
  rw [q1u.f_eq]
  exact e1
def qr1 (key : ByteArray) (n : Int) (a b : Book) : Release := (n + 1, q4h a b, q7e (q9o b), qhz key (qf2 (n + 1) (q4h a b) (q7e (q9o b))))
def qk9 (key : ByteArray) (n : Int) (a b : Book) : Release × Bool :=
  if qoo key && ((decide (0 ≤ n) && decide (n ≤ 999998)) && (q5n a && q5n b)) then (if q8c (qr1 key n a b) then (qr1 key n a b, true) else (zR, false)) else (zR, false)
theorem qr2 {key : ByteArray} {n : Int} {a b : Book} (ha : q5n a = true) (hb : q5n b = true) : smR (qr1 key n a b) := by
  refine ⟨qs1 (qgd (qgw ha hb)), ?_, ?_⟩
  · show (q7e _).size ≤ _
    rw [q61]; omega
  · have := qdm key (qf2 (n + 1) (q4h a b) (q7e (q9o b)))
    show (qhz _ _).size ≤ _
    omega
theorem qs8 {n : Int} (h1 : 0 ≤ n) (h2 : n ≤ 999998) : w64 (n + 1) = n + 1 := q5i (by omega) (by omega)
theorem qaa (key : ByteArray) (n : Int) (a b : Book) (hk : key.size ≤ 9223372036854775807) (ha : smB a) (hb : smB b) : Al fun k => q2b.f k key n a b = some (qk9 key n a b) := by
  have e1 := fun k => qj6 k key hk
  have e2 := fun k => q8y k n 0 999998
  unfold qk9
  cases h1 : qoo key with
  | false => exact Al.now fun k => by rw [q2b.f_eq, e1, h1, Option.bind_some, Bool.not_false, q07]; rfl
  | true =>
  cases h2 : (decide (0 ≤ n) && decide (n ≤ 999998)) with
  | false => exact Al.now fun k => by rw [q2b.f_eq, e1, h1, Option.bind_some, Bool.not_true, q0e, e2, h2, Option.bind_some, Bool.not_false, q07]; rfl
  | true =>
  have h2' := h2
  simp only [Bool.and_eq_true, decide_eq_true_eq] at h2'
  have fa := q4x a ha
  cases h3 : q5n a with
  | false => exact fa.mono fun k e => by rw [q2b.f_eq, e1, h1, Option.bind_some, Bool.not_true, q0e, e2, h2, Option.bind_some, Bool.not_true, q0e, e, h3, Option.bind_some, Bool.not_false, q07]; rfl
  | true =>
  have fb := q4x b hb
  cases h4 : q5n b with
  | false => exact (fa.and fb).mono fun k ⟨e, e3⟩ => by rw [q2b.f_eq, e1, h1, Option.bind_some, Bool.not_true, q0e, e2, h2, Option.bind_some, Bool.not_true, q0e, e, h3, Option.bind_some, Bool.not_true, q0e, e3, h4, Option.bind_some, Bool.not_false, q07]; rfl
  | true =>
  have hz := qk8 (qs7 h4)
  have hs := q61 (q9o b)
  have hD := qgw h3 h4
  have zt := qmt (n := n + 1) (d := q4h a b) (s := q7e (q9o b)) (by omega) (by omega) hD (by omega)
  have ft := q7x (n + 1, q4h a b, q7e (q9o b), bz) (by show 0 ≤ n + 1; omega) (by show n + 1 ≤ 999999; omega) hD (by show (q7e _).size ≤ _; omega)
  refine (((fa.and fb).and ((q81 a b ha hb).and (qev b (qs7 h4)))).and (((q7f (q9o b) (by omega)).and ft).and ((qi0 key (qf2 (n + 1) (q4h a b) (q7e (q9o b))) hk (by omega)).and (q7y (qr1 key n a b) (qr2 h3 h4))))).mono fun k ⟨⟨⟨e3, e4⟩, e5, e6⟩, ⟨e7, e8⟩, e9, e10⟩ => ?_
  rw [q2b.f_eq, e1, h1, Option.bind_some, Bool.not_true, q0e, e2, h2, Option.bind_some, Bool.not_true, q0e, e3, h3, Option.bind_some, Bool.not_true, q0e, e4, h4, Option.bind_some, Bool.not_true, q0e, e5, Option.bind_some, e6, Option.bind_some, e7, Option.bind_some, qs8 h2'.1 h2'.2, e8, Option.bind_some, e9, Option.bind_some]
  rw [qr1] at e10
  rw [e10, Option.bind_some]
  show ifb (!q8c (qr1 key n a b)) _ _ = _
  simp only [Bool.and_self, if_true]
  cases h5 : q8c (qr1 key n a b) with
  | false => rw [Bool.not_false, q07]; rfl
  | true => rw [Bool.not_true, q0e]; rfl
end Go.Proofs.YtjfkeknnjjlepaaGreatDoor.Rf
end

section
namespace Go.Proofs.YtjfkeknnjjlepaaGreatDoor.Rf
open Go Go.RowKit
set_option linter.unusedVariables false
set_option linter.unusedSimpArgs false
theorem Dr.bindv {γ β : Type} {X : Nat → Option γ} {g : Nat → γ → Option (β × Rdr)} {n : Int} {Q : β → Prop} {v : γ} (h : Al fun k => X k = some v) (k : Dr (fun k => g k v) n Q) : Dr (fun k => (X k).bind (g k)) n Q := by
  obtain ⟨w, y, e2, q, s⟩ := k
  exact ⟨w, y, (h.and e2).mono fun k ⟨a, b⟩ => by show (X k).bind (g k) = _; rw [a, Option.bind_some]; exact b, q, s⟩
theorem Dr2.bindv {γ β : Type} {X : Nat → Nat → Option γ} {g : Nat → Nat → γ → Option (β × Rdr)} {n : Int} {Q : β → Prop} {v : γ} (h : Al2 fun k k1 => X k k1 = some v) (k : Dr2 (fun k k1 => g k k1 v) n Q) : Dr2 (fun k k1 => (X k k1).bind (g k k1)) n Q := by
  obtain ⟨w, y, e2, q, s⟩ := k
  exact ⟨w, y, (h.and e2).mono fun k k1 ⟨a, b⟩ => by show (X k k1).bind (g k k1) = _; rw [a, Option.bind_some]; exact b, q, s⟩
theorem qs9 (a b : Nat) (ha : a < 2 ^ 62) (hb : b < 2 ^ 62) : 0 ≤ IntKind.i64.wrap ((BitVec.ofInt 64 (a : Int) ^^^ BitVec.ofInt 64 (b : Int)).toNat : Int) := by
  have h2 : (2 : Nat) ^ 62 ≤ 2 ^ 64 := by decide
  have ha' : a % 2 ^ 64 = a := Nat.mod_eq_of_lt (Nat.lt_of_lt_of_le ha h2)
  have hb' : b % 2 ^ 64 = b := Nat.mod_eq_of_lt (Nat.lt_of_lt_of_le hb h2)
  have e1 : (BitVec.ofInt 64 (a : Int)).toNat = a := by rw [BitVec.ofInt_natCast, BitVec.toNat_ofNat]; exact ha'
  have e2 : (BitVec.ofInt 64 (b : Int)).toNat = b := by rw [BitVec.ofInt_natCast, BitVec.toNat_ofNat]; exact hb'
  rw [BitVec.toNat_xor, e1, e2]
  have h3 : a ^^^ b < 4611686018427387904 := Nat.lt_of_lt_of_eq (Nat.xor_lt_two_pow ha hb) (by decide)
  generalize a ^^^ b = X at h3
  rw [q5i (by omega) (by omega)]
  omega
theorem qsa (a b : Int) (ha : 0 ≤ a) (hb : 0 ≤ b) (ha1 : a < 2 ^ 62) (hb1 : b < 2 ^ 62) : 0 ≤ IntKind.i64.wrap ((BitVec.ofInt 64 a ^^^ BitVec.ofInt 64 b).toNat : Int) := by
  obtain ⟨m, rfl⟩ := Int.eq_ofNat_of_zero_le ha
  obtain ⟨n, rfl⟩ := Int.eq_ofNat_of_zero_le hb
  exact qs9 m n (by exact_mod_cast ha1) (by exact_mod_cast hb1)
theorem qgx (s : List Int) (hs : ∀ b ∈ s, 0 ≤ b ∧ b ≤ 255) : ∃ x, Al (fun k => q21.f k s = some x) ∧ Rd 0 x := by
  by_cases c : (s.length : Int) > 2000
  · refine ⟨((s.take (2000 : Int).toNat).drop (0 : Int).toNat, 0), Al.succ (Al.now fun k => ?_), ⟨fun b hb => hs b (List.mem_of_mem_take (List.mem_of_mem_drop hb)), ?_⟩, Int.le_refl _, Int.le_refl _⟩
    · rw [q21.f_eq, decide_eq_true c, q07, q21.J3_eq]
      rw [decide_eq_true (by omega), decide_eq_true (by omega), decide_eq_true (by omega)]
      simp only [Bool.and_self, q07]
    · simp only [List.length_drop, List.length_take]; omega
  · refine ⟨(s, 0), Al.succ (Al.now fun k => ?_), ⟨hs, show s.length ≤ 2000 by omega⟩, Int.le_refl _, Int.le_refl _⟩
    rw [q21.f_eq, decide_eq_false c, q0e, q21.J3_eq]
theorem q4u {m : Int} {x : Rdr} (h : Rd m x) (hm : m ≤ 1000000000) (n : Int) (n1 : 1 ≤ n) (n2 : n ≤ 1000000) : Dr (fun k => q02.f k x n) (m + 1) fun v => 0 ≤ v ∧ v < n := by
  obtain ⟨hs, hp0, hp1⟩ := h
  have hat := Rd.at (x := x) (m := m) ⟨hs, hp0, hp1⟩
  obtain ⟨s, p⟩ := x
  simp only at hp0 hp1 hat hs
  have w1 : w64 (p + 1) = p + 1 := q5i (by omega) (by omega)
  have w2 : w64 (p + 1 - 1) = p := by rw [show p + 1 - 1 = p by omega]; exact q5i (by omega) (by omega)
  have R : Rd (m + 1) (s, p + 1) := ⟨hs, by omega, by omega⟩
  have c : decide (n < 1) = false := decide_eq_false (by omega)
  have n0 : decide (n ≠ 0) = true := decide_eq_true (by omega)
  by_cases z : s.length = 0
  · refine ⟨0, (s, p + 1), Al.now fun k => ?_, ⟨Int.le_refl _, by omega⟩, R⟩
    show q02.f k (s, p) n = _
    rw [q02.f_eq]
    simp only [c, q0e, w1, z]
    rw [show (((0 : Nat) : Int) == 0) = true from rfl, q07]
  have z1 : ((s.length : Int) == 0) = false := by rw [beq_eq_false_iff_ne]; omega
  have tm : ∀ x : Int, 0 ≤ x → 0 ≤ Int.tmod x n ∧ Int.tmod x n < n := fun x hx => ⟨Int.tmod_nonneg _ hx, Int.tmod_lt_of_pos _ (by omega)⟩
  by_cases q : p < (s.length : Int)
  · have r0 := hat p.toNat
    have w3 : w64 (s.getD p.toNat 0) = s.getD p.toNat 0 := q5i (by omega) (by omega)
    refine ⟨_, (s, p + 1), Al.now fun k => ?_, tm _ r0.1, R⟩
    show q02.f k (s, p) n = _
    rw [q02.f_eq]
    simp only [c, q0e, w1, w2, z1, decide_eq_true q, decide_eq_true hp0, Bool.and_self, q07, n0, w3]
  · have hl := hs.2
    have l0 : decide ((s.length : Int) ≠ 0) = true := decide_eq_true (by omega)
    have m1 : 0 ≤ Int.tmod p (s.length : Int) ∧ Int.tmod p (s.length : Int) < (s.length : Int) := ⟨Int.tmod_nonneg _ hp0, Int.tmod_lt_of_pos _ (by omega)⟩
    have w7 : w64 (p * 7) = p * 7 := q5i (by omega) (by omega)
    have w8 : w64 (p * 7 + 3) = p * 7 + 3 := q5i (by omega) (by omega)
    have m2 : 0 ≤ Int.tmod (p * 7 + 3) (s.length : Int) ∧ Int.tmod (p * 7 + 3) (s.length : Int) < (s.length : Int) := ⟨Int.tmod_nonneg _ (by omega), Int.tmod_lt_of_pos _ (by omega)⟩
    generalize hA : Int.tmod p (s.length : Int) = A at m1
    generalize hB : Int.tmod (p * 7 + 3) (s.length : Int) = B at m2
    have ra := hat A.toNat
    have rb := hat B.toNat
    generalize hX : s.getD A.toNat (0 : Int) = X at ra
    generalize hY : s.getD B.toNat (0 : Int) = Y at rb
    have hd : 0 ≤ Int.tdiv p (s.length : Int) ∧ Int.tdiv p (s.length : Int) ≤ p := by
      refine ⟨Int.tdiv_nonneg hp0 (by omega), ?_⟩
      rw [Int.tdiv_eq_ediv_of_nonneg hp0]
      exact Int.ediv_le_self _ hp0
    generalize hD : Int.tdiv p (s.length : Int) = D at hd
    have v1 : w64 X = X := q5i (by omega) (by omega)
    have v2 : w64 (X * 131) = X * 131 := q5i (by omega) (by omega)
    have v3 : w64 Y = Y := q5i (by omega) (by omega)
    have v4 : w64 (Y * 1117) = Y * 1117 := q5i (by omega) (by omega)
    have v5 : w64 (X * 131 + Y * 1117) = X * 131 + Y * 1117 := q5i (by omega) (by omega)
    have v6 : w64 (p * 29) = p * 29 := q5i (by omega) (by omega)
    have v7 : w64 (X * 131 + Y * 1117 + p * 29) = X * 131 + Y * 1117 + p * 29 := q5i (by omega) (by omega)
    have v8 : w64 D = D := q5i (by omega) (by omega)
    have v9 : w64 (D * 53) = D * 53 := q5i (by omega) (by omega)
    have v10 : w64 (X * 131 + Y * 1117 + p * 29 + D * 53) = X * 131 + Y * 1117 + p * 29 + D * 53 := q5i (by omega) (by omega)
    have hS0 : 0 ≤ X * 131 + Y * 1117 + p * 29 + D * 53 ∧ X * 131 + Y * 1117 + p * 29 + D * 53 ≤ 1000000000000 := by omega
    have e0 : ∀ k, q02.f k (s, p) n = q02.J8 k (s, p + 1) n (X * 131 + Y * 1117 + p * 29 + D * 53) := by
      intro k
      rw [q02.f_eq]
      simp only [c, q0e, w1, w2, z1, decide_eq_false q, l0, q07, hA, w7, w8, hB, decide_eq_true m1.1, decide_eq_true m1.2, decide_eq_true m2.1, decide_eq_true m2.2, Bool.and_self, hX, hY, hD, v1, v2, v3, v4, v5, v6, v7, v8, v9, v10]
    generalize X * 131 + Y * 1117 + p * 29 + D * 53 = S at e0 hS0
    have hq : 0 ≤ Int.tdiv S 64 ∧ Int.tdiv S 64 ≤ S := by
      refine ⟨Int.tdiv_nonneg hS0.1 (by omega), ?_⟩
      rw [Int.tdiv_eq_ediv_of_nonneg hS0.1]
      exact Int.ediv_le_self _ hS0.1
    have v11 : w64 (Int.tdiv S 64) = Int.tdiv S 64 := q5i (by omega) (by omega)
    have hx := qsa S (Int.tdiv S 64) hS0.1 hq.1 (by omega) (by omega)
    refine ⟨_, (s, p + 1), Al.succ (Al.now fun k => ?_), tm _ hx, R⟩
    show q02.f _ (s, p) n = _
    rw [e0, q02.J8_eq]
    simp only [n0, v11, q07, show decide ((64 : Int) ≠ 0) = true from rfl]
theorem qew {m : Int} {x : Rdr} (h : Rd m x) (hm : m ≤ 1000000000) (l : List ByteArray) (l1 : 1 ≤ l.length) (l2 : l.length ≤ 1000000) : Dr (fun k => q0y.f k x l) (m + 1) fun v => v ∈ l := by
  obtain ⟨v, x', e, ⟨p0, p1⟩, r⟩ := q4u h hm (l.length : Int) (by omega) (by omega)
  have hv : v.toNat < l.length := by omega
  refine ⟨l.getD v.toNat bz, x', e.mono fun k e => ?_, ?_, r⟩
  · have e' : q02.f k x (l.length : Int) = some (v, x') := e
    show q0y.f k x l = _
    rw [q0y.f_eq, e', Option.bind_some]
    simp only [decide_eq_true p0, decide_eq_true p1, Bool.and_self, q07]
  · rw [List.getD_eq_getElem?_getD, List.getElem?_eq_getElem hv]
    exact List.getElem_mem hv
theorem qox (a b : Int) : Al fun k => q3c.f k a b = some (if a < b then a else b) := Al.now fun k => by
  rw [q3c.f_eq]
  by_cases h : a < b
  · rw [decide_eq_true h, q07, if_pos h]
  · rw [decide_eq_false h, q0e, if_neg h]
def noW (n : Nat) (s : ByteArray) : Prop := s.size ≤ n ∧ (bl s).head? ≠ some 119
theorem qr3 {a b : ByteArray} {n m : Nat} (h : noW n a) (k : noW m b) : noW (n + m) (a ++ b) := by
  refine ⟨by rw [ByteArray.size_append]; exact Nat.add_le_add h.1 k.1, ?_⟩
  have e : bl (a ++ b) = bl a ++ bl b := by simp [bl]
  rw [e]
  cases ha : bl a with
  | nil => exact k.2
  | cons x t => have := h.2; rw [ha] at this; simpa using this
theorem qr4 {a : ByteArray} {n j : Nat} (h : noW n a) (hj : j ≤ a.size) : noW j (a.extract 0 j) := by
  refine ⟨by simp; omega, ?_⟩
  have e : bl (a.extract 0 j) = (bl a).take j := by simp [bl]
  rw [e]
  cases ha : bl a with
  | nil => simp
  | cons x t =>
    cases j with
    | zero => simp
    | succ j => have := h.2; rw [ha] at this; simpa using this
theorem qmw {m : Int} {x : Rdr} (h : Rd m x) (hm : m ≤ 900000000) : Dr (fun k => q1n.f k x) (m + 12) (noW 12) := by
  have two : ∀ (n : Nat) (m : Int) (x : Rdr) (s : ByteArray), Rd m x → m + n ≤ 1000000000 → noW (1000 - 2 * n) s → n ≤ 6 → Dr2 (fun k k1 => q1n.L4 k k1 x s (n : Int)) (m + n) (noW 12) := by
    intro n
    induction n with
    | zero =>
      intro m x s hx hm hs hn
      refine Dr2.succ (Dr2.congr (fun k k1 => q1n.L4_eq k k1 x s _) ?_)
      simp only [show decide (((0 : Nat) : Int) > 0) = false from rfl, q0e]
      refine Dr2.bindv (qox _ _).fst ?_
      have hj : (if (s.size : Int) < 12 then (s.size : Int) else 12).toNat ≤ s.size ∧ (if (s.size : Int) < 12 then (s.size : Int) else 12).toNat ≤ 12 ∧ (0 : Int) ≤ (if (s.size : Int) < 12 then (s.size : Int) else 12) ∧ (if (s.size : Int) < 12 then (s.size : Int) else 12) ≤ (s.size : Int) := by split <;> omega
      have hw := qr4 hs hj.1
      refine Dr2.now (fun k k1 => by
        rw [decide_eq_true (Int.le_refl 0), decide_eq_true hj.2.2.1, decide_eq_true hj.2.2.2, Bool.and_self, Bool.and_self, q07]
        rfl) ⟨Nat.le_trans hw.1 hj.2.1, hw.2⟩ (hx.up (by omega))
    | succ n ih =>
      intro m x s hx hm hs hn
      refine Dr2.succ (Dr2.congr (fun k k1 => q1n.L4_eq k k1 x s _) ?_)
      simp only [decide_eq_true (show ((n + 1 : Nat) : Int) > 0 by omega), q07]
      refine Dr2.bind (qew hx (by omega) _ (by simp) (by simp)).snd fun v y hv hy => ?_
      have hv' : noW 2 v := by
        simp only [List.mem_cons, List.not_mem_nil, or_false] at hv
        rcases hv with rfl | rfl | rfl | rfl | rfl <;> exact ⟨by decide, by decide⟩
      have h2 := qr3 hs hv'
      have sz : q4m (s.size + v.size) = true := q3j (by have := hs.1; have := hv'.1; omega)
      have e1 : w64 (((n + 1 : Nat) : Int) - 1) = (n : Int) := by rw [show ((n + 1 : Nat) : Int) - 1 = (n : Int) by omega]; exact q5i (by omega) (by omega)
      simp only [sz, q07, e1]
      exact (ih (m + 1) y (s ++ v) hy (by omega) ⟨Nat.le_trans h2.1 (by omega), h2.2⟩ (by omega)).up (by omega) fun _ h => h
  refine Dr.congr (fun k => q1n.f_eq k x) (Dr.bind (q4u h (by omega) 3 (by omega) (by omega)) fun v y hv hy => ?_)
  by_cases c : v = 0
  · subst c
    simp only [show ((0 : Int) == 0) = true from rfl, q07]
    refine Dr.bind (q4u hy (by omega) 5 (by omega) (by omega)) fun v z hv hz => ?_
    obtain ⟨n, rfl⟩ := Int.eq_ofNat_of_zero_le hv.1
    have e1 : w64 (1 + (n : Int)) = ((n + 1 : Nat) : Int) := by rw [show (1 : Int) + (n : Int) = ((n + 1 : Nat) : Int) by omega]; exact q5i (by omega) (by omega)
    simp only [e1]
    exact (two (n + 1) _ z bz hz (by omega) ⟨by simp, by decide⟩ (by omega)).diag.up (by omega) fun _ h => h
  · simp only [show (v == 0) = false by rw [beq_eq_false_iff_ne]; exact c, q0e]
    refine Dr.bind (qew hy (by omega) _ (by simp) (by simp)) fun v z hv hz => ?_
    refine Dr.now (v := v) (x := z) (fun k => rfl) ?_ (hz.up (by omega))
    simp only [List.mem_cons, List.not_mem_nil, or_false] at hv
    rcases hv with rfl | rfl | rfl | rfl | rfl | rfl | rfl | rfl | rfl | rfl | rfl | rfl | rfl | rfl | rfl <;> exact ⟨by decide, by decide⟩
end Go.Proofs.YtjfkeknnjjlepaaGreatDoor.Rf
end

section
namespace Go.Proofs.YtjfkeknnjjlepaaGreatDoor.Rf
open Go Go.RowKit
set_option linter.unusedVariables false
set_option linter.unusedSimpArgs false
theorem Dr3.pred {α : Type} {X : Nat → Nat → Nat → Option (α × Rdr)} {m : Int} {P : α → Prop} (h : Dr3 X m P) : Dr3 (fun a b c => X a b (c + 1)) m P := by
  obtain ⟨v, x, ⟨n, e⟩, r⟩ := h
  exact ⟨v, x, ⟨n, fun a b c ha hb hc => e a b (c + 1) ha hb (by omega)⟩, r⟩
theorem Dr2.fst3 {α : Type} {X : Nat → Nat → Option (α × Rdr)} {m : Int} {P : α → Prop} (h : Dr2 X m P) : Dr3 (fun a b _ => X a b) m P := by
  obtain ⟨v, x, e, r⟩ := h
  exact ⟨v, x, e.fst, r⟩
def szN (n : Nat) (s : ByteArray) : Prop := s.size ≤ n
theorem qdn {m : Int} {x : Rdr} (h : Rd m x) (hm : m ≤ 800000000) : Dr (fun k => q2d.f k x) (m + 20) (szN 13) := by
  refine Dr.congr (fun k => q2d.f_eq k x) (Dr.bind (q4u h (by omega) 16 (by omega) (by omega)) fun v y hv hy => ?_)
  by_cases c : v = 0
  · subst c
    simp only [show ((0 : Int) == 0) = true from rfl, q07]
    refine Dr.bind (qew hy (by omega) _ (by simp) (by simp)) fun v z hv hz => ?_
    refine Dr.now (v := v) (x := z) (fun k => rfl) ?_ (hz.up (by omega))
    simp only [List.mem_cons, List.not_mem_nil, or_false] at hv
    rcases hv with rfl | rfl | rfl | rfl | rfl | rfl <;> (unfold szN; decide)
  · simp only [show (v == 0) = false by rw [beq_eq_false_iff_ne]; exact c, q0e]
    refine Dr.bind (qmw hy (by omega)) fun v z hv hz => ?_
    exact Dr.now (v := v) (x := z) (fun k => rfl) (Nat.le_trans hv.1 (by omega)) (hz.up (by omega))
theorem qj9 {m : Int} {x : Rdr} (h : Rd m x) (hm : m ≤ 800000000) : Dr (fun k => q1i.f k x) (m + 1) qs2 := by
  refine Dr.congr (fun k => q1i.f_eq k x) (Dr.succ ?_)
  refine Dr.congr (fun k => q1i.J2_eq k x _ _) ?_
  refine Dr.bind (q4u h (by omega) _ (by simp) (by simp)) fun v y hv hy => ?_
  have p0 := hv.1
  have p1 := hv.2
  simp only [decide_eq_true p0, decide_eq_true p1, Bool.and_self, q07]
  refine Dr.now (v := _) (x := y) (fun k => rfl) ?_ hy
  obtain ⟨n, rfl⟩ := Int.eq_ofNat_of_zero_le p0
  simp only [List.length_cons, List.length_nil] at p1
  have : n = 0 ∨ n = 1 ∨ n = 2 ∨ n = 3 ∨ n = 4 ∨ n = 5 ∨ n = 6 ∨ n = 7 := by omega
  rcases this with rfl | rfl | rfl | rfl | rfl | rfl | rfl | rfl <;> exact ⟨by decide, by decide, by decide, by decide⟩
theorem qr5 {y : Rdr} {l : List Aff} {a : Aff} {n : Nat} {M : Int} {P : List Aff → Prop} (hl : l.length ≤ 100) (hn : n ≤ 100)
    (hA : Dr2 (fun k k1 => q08.L3 k k1 y (l ++ [a]) (n : Int)) M P) (hB : Dr2 (fun k k1 => q08.L3 k k1 y l (n : Int)) M P) :
    ∀ j i : Nat, i + j = l.length → ∀ b : Bool, Dr3 (fun k k1 k2 => q08.L8 k k1 k2 y l ((n + 1 : Nat) : Int) a b (i : Int)) M P := by
  have e1 : w64 (((n + 1 : Nat) : Int) - 1) = (n : Int) := by rw [show ((n + 1 : Nat) : Int) - 1 = (n : Int) by omega]; exact q5i (by omega) (by omega)
  have e2 : decide ((l.length + [a].length) * 72 ≤ q1r) = true := decide_eq_true (by simp [q1r]; omega)
  intro j
  induction j with
  | zero =>
    intro i hi b
    refine Dr3.succ (Dr3.congr (fun k k1 k2 => q08.L8_eq k k1 k2 y l _ a b _) ?_)
    simp only [at_end (show ¬ i < l.length by omega), q0e, e1, e2, q07]
    cases b
    · simp only [Bool.not_false, q07]; exact hA.fst3
    · simp only [Bool.not_true, q0e]; exact hB.fst3
  | succ j ih =>
    intro i hi b
    obtain ⟨c1, c2, c3, c4⟩ := q5y (show i < l.length by omega) (by omega)
    refine Dr3.succ (Dr3.congr (fun k k1 k2 => q08.L8_eq k k1 k2 y l _ a b _) (Dr3.succ ?_))
    simp only [c1, c2, Bool.and_self, q07, q08.J9_eq, w64, c4]
    cases b
    · simp only [q0e]; exact (ih (i + 1) (by omega) _).pred
    · simp only [q07]; exact (ih (i + 1) (by omega) _).pred
theorem qmx : ∀ (n : Nat) (m : Int) (y : Rdr) (l : List Aff), Rd m y → m + n ≤ 700000000 → n ≤ 5 → qck (50 - n) l → Dr2 (fun k k1 => q08.L3 k k1 y l (n : Int)) (m + n) (qck 50) := by
  intro n
  induction n with
  | zero =>
    intro m y l hy hm hn hl
    refine Dr2.succ (Dr2.congr (fun k k1 => q08.L3_eq k k1 y l _) ?_)
    simp only [show decide (((0 : Nat) : Int) > 0) = false from rfl, q0e]
    exact Dr2.now (v := l) (x := y) (fun k k1 => rfl) hl (hy.up (by omega))
  | succ n ih =>
    intro m y l hy hm hn hl
    refine Dr2.succ (Dr2.congr (fun k k1 => q08.L3_eq k k1 y l _) ?_)
    simp only [decide_eq_true (show ((n + 1 : Nat) : Int) > 0 by omega), q07]
    refine Dr2.bind (qj9 hy (by omega)).snd fun a z ha hz => ?_
    have A := ih (m + 1) z (l ++ [a]) hz (by omega) (by omega) ⟨by have := hl.1; simp; omega, fun x hx => (List.mem_append.1 hx).elim (hl.2 x) fun h => by rw [List.mem_singleton.1 h]; exact ha⟩
    have B := ih (m + 1) z l hz (by omega) (by omega) ⟨by have := hl.1; omega, hl.2⟩
    exact ((qr5 (by have := hl.1; omega) (by omega) A B l.length 0 (by omega) false).in2).up (by omega) fun _ h => h
theorem qka {m : Int} {x : Rdr} (h : Rd m x) (hm : m ≤ 600000000) : Dr (fun k => q08.f k x) (m + 10) (qck 50) := by
  refine Dr.congr (fun k => q08.f_eq k x) (Dr.bind (q4u h (by omega) 5 (by omega) (by omega)) fun v y hv hy => ?_)
  obtain ⟨n, rfl⟩ := Int.eq_ofNat_of_zero_le hv.1
  have h5 := hv.2
  exact ((qmx n (m + 1) y [] hy (by omega) (by omega) ⟨by simp, fun a ha => by simp at ha⟩).diag).up (by omega) fun _ h => h
def qja (s : ByteArray) : List ByteArray → List ByteArray
  | [] => [s]
  | x :: t => if ltS x s then x :: qja s t else if x = s then x :: t else s :: x :: t
theorem qmy (s x : ByteArray) (t : List ByteArray) : qja s (x :: t) = if ltS x s then x :: qja s t else if x = s then x :: t else s :: x :: t := rfl
theorem qex {s x : ByteArray} : ∀ {l : List ByteArray}, x ∈ qja s l → x = s ∨ x ∈ l
  | [], h => .inl (List.mem_singleton.1 h)
  | y :: t, h => by
    unfold qja at h
    split at h
    · rcases List.mem_cons.1 h with rfl | h
      · exact .inr (List.mem_cons_self ..)
      · exact (qex h).imp id fun h => List.mem_cons_of_mem _ h
    · split at h
      · exact .inr h
      · rcases List.mem_cons.1 h with rfl | h
        · exact .inl rfl
        · exact .inr h
theorem qey (s : ByteArray) : ∀ (l : List ByteArray), (qja s l).length ≤ l.length + 1 ∧ (s ∉ l → (qja s l).length = l.length + 1)
  | [] => ⟨by simp [qja], fun _ => by simp [qja]⟩
  | y :: t => by
    unfold qja
    split
    · have := qey s t
      exact ⟨by simp; omega, fun h => by simp only [List.length_cons]; rw [this.2 fun h' => h (List.mem_cons_of_mem _ h')]⟩
    · split
      · rename_i e
        exact ⟨by simp, fun h => (h (by simp [e])).elim⟩
      · exact ⟨by simp, fun _ => by simp⟩
theorem qjb (l : List ByteArray) (s : ByteArray) (hl : l.length ≤ 1099511627776) : Al fun k => q2h.f k l s = some (qja s l) := by
  have hS : l.length ≤ 4611686018427387904 := by omega
  have ins : ∀ i : Nat, i ≤ l.length → ∀ (z : Option (List ByteArray)), ifb (decide (0 ≤ (0 : Int)) && (decide ((0 : Int) ≤ (i : Int)) && decide ((i : Int) ≤ (l.length : Int)))) (ifb (decide ((([] : List ByteArray).length + ((l.take i).drop (0 : Int).toNat).length) * 16 ≤ q1r)) (ifb (decide (((([] : List ByteArray) ++ ((l.take i).drop (0 : Int).toNat)).length + [s].length) * 16 ≤ q1r)) (ifb (decide (0 ≤ (i : Int)) && (decide ((i : Int) ≤ (l.length : Int)) && decide ((l.length : Int) ≤ (l.length : Int)))) (ifb (decide ((((([] : List ByteArray) ++ ((l.take i).drop (0 : Int).toNat)) ++ [s]).length + ((l.take l.length).drop i).length) * 16 ≤ q1r)) (some (((([] : List ByteArray) ++ ((l.take i).drop (0 : Int).toNat)) ++ [s]) ++ ((l.take l.length).drop i))) (none)) (none)) (none)) (none)) (none) = some (l.take i ++ s :: l.drop i) := by
    intro i hi _
    have d0 : ∀ l : List ByteArray, l.drop (0 : Int).toNat = l := fun l => rfl
    have d1 : l.take l.length = l := List.take_length
    rw [d1, d0]
    rw [decide_eq_true (Int.le_refl 0), decide_eq_true (show (0 : Int) ≤ (i : Int) by omega), decide_eq_true (show (i : Int) ≤ (l.length : Int) by omega), decide_eq_true (Int.le_refl (l.length : Int)), Bool.and_self, Bool.and_self, q07, q07]
    rw [decide_eq_true (by simp [q1r]; omega), decide_eq_true (by simp [q1r]; omega), decide_eq_true (by simp [q1r]; omega), q07, q07, q07]
    simp
  have key : ∀ (t : List ByteArray) (i : Nat), l.drop i = t → i ≤ l.length → Al2 fun k k1 => q2h.L2 k k1 l s (i : Int) = some (l.take i ++ qja s t) := by
    intro t
    induction t with
    | nil =>
      intro i hd hi
      have he := drop_nil hd
      refine Al2.succ (Al2.now fun k k1 => ?_)
      simp only [q2h.L2_eq, at_end he, q0e, Int.toNat_natCast]
      rw [ins i hi none, hd]
      rfl
    | cons x t ih =>
      intro i hd hi
      obtain ⟨hi', g1, g2⟩ := q3p bz hd
      obtain ⟨c1, c2, c3, c4⟩ := q5y hi' hS
      refine Al2.succ ((ih (i + 1) g2 (by omega)).mono fun k k1 e => ?_)
      simp only [q2h.L2_eq, c1, c2, Int.toNat_natCast, w64, c4, g1, Bool.and_self, q07, e, q5l, qmy]
      cases hx : Op.bytesLess x.toList s.toList
      · rw [q0e, if_neg (show ¬ ltS x s = true by simp [ltS, hx])]
        by_cases e2 : x = s
        · rw [decide_eq_true e2, q07, if_pos e2, ← hd, List.take_append_drop]
        · have ins' := ins i hi none
          simp only [c2] at ins'
          rw [decide_eq_false e2, q0e, ins', hd, if_neg e2]
      · rw [q07, if_pos (show ltS x s = true by simp [ltS, hx])]
        have e3 : l.take (i + 1) = l.take i ++ [x] := by
          have h2 : l.take (i + 1) = l.take i ++ (l.drop i).take 1 := by rw [List.take_add]
          rw [h2, hd]; rfl
        rw [e3]
        simp
  refine (key l 0 rfl (by omega)).diag.mono fun k e => ?_
  rw [q2h.f_eq, show (0 : Int) = ((0 : Nat) : Int) from rfl, e]
  rfl
theorem qjc {m : Int} {x : Rdr} (s : ByteArray) (hs : s.size ≤ 16) (h : Rd m x) (hm : m ≤ 900000000) : Dr (fun k => q2m.f k x s) (m + 1) qsn := by
  refine Dr.congr (fun k => q2m.f_eq k x s) (Dr.bind (qew h (by omega) _ (by simp) (by simp)) fun v y hv hy => ?_)
  have h16 : v.size ≤ 16 := by
    simp only [List.mem_cons, List.not_mem_nil, or_false] at hv
    rcases hv with rfl | rfl | rfl | rfl | rfl | rfl | rfl | rfl | rfl <;> decide
  exact Dr.now (v := (s, v)) (x := y) (fun k => rfl) ⟨hs, h16⟩ hy
theorem qmz (b0 : Book) (A : List Aff) (hA : qck 50 A) (ws : List ByteArray) (hw : ws.length ≤ 40 ∧ ∀ s ∈ ws, s.size ≤ 16) :
    ∀ (j i : Nat) (m : Int) (x : Rdr) (es : List En), i + j = ws.length → Rd m x → m + j ≤ 800000000 → qqs i es → Dr2 (fun k k1 => q0a.L13 k k1 x b0 (A, es) ws (i : Int)) (m + j) (qa8 50) := by
  intro j
  induction j with
  | zero =>
    intro i m x es hi hx hm he
    refine Dr2.succ (Dr2.congr (fun k k1 => q0a.L13_eq k k1 x b0 (A, es) ws _) ?_)
    simp only [at_end (show ¬ i < ws.length by omega), q0e]
    exact Dr2.now (v := (A, es)) (x := x) (fun _ _ => rfl) ⟨hA, by have := he.1; exact Nat.le_trans he.1 (by omega), he.2⟩ (hx.up (by omega))
  | succ j ih =>
    intro i m x es hi hx hm he
    have hil : i < ws.length := by omega
    obtain ⟨c1, c2, c3, c4⟩ := q5y hil (by omega)
    refine Dr2.succ (Dr2.congr (fun k k1 => q0a.L13_eq k k1 x b0 (A, es) ws _) ?_)
    simp only [c1, c2, c3, Bool.and_self, q07, w64, c4]
    have hs : (ws.getD i bz).size ≤ 16 := by
      rw [List.getD_eq_getElem?_getD, List.getElem?_eq_getElem hil]
      exact hw.2 _ (List.getElem_mem hil)
    refine Dr2.bind (qjc _ hs hx (by omega)).snd fun e y he' hy => ?_
    have e2 : decide ((es.length + [e].length) * 32 ≤ q1r) = true := decide_eq_true (by have := he.1; simp [q1r]; omega)
    simp only [e2, q07]
    exact (ih (i + 1) (m + 1) y (es ++ [e]) (by omega) hy (by omega) ⟨by have := he.1; simp; omega, fun z hz => (List.mem_append.1 hz).elim (he.2 z) fun h => by rw [List.mem_singleton.1 h]; exact he'⟩).up (by omega) fun _ h => h
theorem qjd (b0 : Book) (A : List Aff) (hA : qck 50 A) (ws : List ByteArray) (hw : ws.length ≤ 40 ∧ ∀ s ∈ ws, s.size ≤ 16) {m : Int} {x : Rdr} (hx : Rd m x) (hm : m ≤ 700000000) :
    Dr (fun k => q0a.J12 k x b0 (A, []) ws) (m + 40) (qa8 50) := by
  refine Dr.succ (Dr.congr (fun k => q0a.J12_eq k x b0 (A, []) ws) ?_)
  exact ((qmz b0 A hA ws hw ws.length 0 m x [] (by omega) hx (by omega) ⟨by simp, fun e he => by simp at he⟩).diag).up (by omega) fun _ h => h
def wN (n : Nat) : ByteArray := (⟨#[119]⟩ : ByteArray) ++ strOf [(IntKind.u8.wrap (w64 ((97 : Int) + (n : Int))))]
theorem qoy : ∀ n, n < 25 → bl (wN n) = [119, (97 + n).toUInt8] := by decide
theorem qn0 {n : Nat} (h : n < 25) : (wN n).size = 2 := by rw [← q4b, qoy n h]; rfl
theorem qsb : ∀ i, i < 25 → ∀ j, j < 25 → wN i = wN j → i = j := by
  intro i hi j hj e
  have := congrArg bl e
  rw [qoy i hi, qoy j hj] at this
  have h2 : (97 + i).toUInt8 = (97 + j).toUInt8 := by simpa using this
  have h3 := congrArg UInt8.toNat h2
  simp at h3
  omega
def wOk (n : Nat) (s : ByteArray) : Prop := s.size ≤ 16 ∧ ((bl s).head? ≠ some 119 ∨ ∃ j, j < n ∧ s = wN j)
theorem qn1 (b0 : Book) (A : List Aff) (hA : qck 50 A) : ∀ (j n : Nat) (m : Int) (x : Rdr) (ws : List ByteArray), j + ws.length = 24 → n ≤ ws.length → Rd m x → m ≤ 600000000 → (∀ s ∈ ws, wOk n s) →
    Dr2 (fun k k1 => q0a.L9 k k1 x b0 (A, []) ws (n : Int)) (m + 40) (qa8 50) := by
  intro j
  induction j with
  | zero =>
    intro n m x ws hj hn hx hm hw
    refine Dr2.succ (Dr2.congr (fun k k1 => q0a.L9_eq k k1 x b0 (A, []) ws _) ?_)
    simp only [show decide ((ws.length : Int) < 24) = false from decide_eq_false (by omega), q0e]
    exact (qjd b0 A hA ws ⟨by omega, fun s hs => (hw s hs).1⟩ hx (by omega)).fst
  | succ j ih =>
    intro n m x ws hj hn hx hm hw
    refine Dr2.succ (Dr2.congr (fun k k1 => q0a.L9_eq k k1 x b0 (A, []) ws _) ?_)
    have hn25 : n < 25 := by omega
    have hsz : q4m ((⟨#[119]⟩ : ByteArray).size + (strOf [(IntKind.u8.wrap (w64 ((97 : Int) + (n : Int))))]).size) = true := by
      have h2 := qn0 hn25
      unfold wN at h2
      rw [ByteArray.size_append] at h2
      rw [h2]; rfl
    have e1 : w64 ((n : Int) + 1) = ((n + 1 : Nat) : Int) := by rw [show (n : Int) + 1 = ((n + 1 : Nat) : Int) by omega]; exact q5i (by omega) (by omega)
    simp only [show decide ((ws.length : Int) < 24) = true from decide_eq_true (by omega), q07, hsz, e1]
    refine Dr2.bindv (qjb ws (wN n) (by omega)).snd ?_
    have hno : wN n ∉ ws := by
      intro hmem
      rcases (hw _ hmem).2 with h | ⟨i, hi, h⟩
      · rw [qoy n hn25] at h; simp at h
      · have := qsb n hn25 i (by omega) h; omega
    have hlen := (qey (wN n) ws).2 hno
    refine ih (n + 1) m x (qja (wN n) ws) (by omega) (by omega) hx hm fun s hs => ?_
    rcases qex hs with rfl | hs
    · exact ⟨by rw [qn0 hn25]; omega, .inr ⟨n, by omega, rfl⟩⟩
    · obtain ⟨h1, h2⟩ := hw s hs
      exact ⟨h1, h2.imp id fun ⟨i, hi, h⟩ => ⟨i, by omega, h⟩⟩
theorem qkb (b0 : Book) (A : List Aff) (hA : qck 50 A) : ∀ (n : Nat) (m : Int) (x : Rdr) (ws : List ByteArray), n + ws.length ≤ 7 → Rd m x → m + 12 * n ≤ 500000000 → (∀ s ∈ ws, wOk 0 s) →
    Dr2 (fun k k1 => q0a.L4 k k1 x b0 (A, []) ws (n : Int)) (m + 12 * n + 50) (qa8 50) := by
  intro n
  induction n with
  | zero =>
    intro m x ws hl hx hm hw
    refine Dr2.succ (Dr2.congr (fun k k1 => q0a.L4_eq k k1 x b0 (A, []) ws _) ?_)
    simp only [show decide (((0 : Nat) : Int) > 0) = false from rfl, q0e]
    refine Dr2.bind (q4u hx (by omega) 30 (by omega) (by omega)).fst fun v y hv hy => ?_
    by_cases c : v = 0
    · subst c
      simp only [show ((0 : Int) == 0) = true from rfl, q07]
      exact ((qn1 b0 A hA (24 - ws.length) 0 (m + 1) y ws (by omega) (by omega) hy (by omega) hw).diag.fst).up (by omega) fun _ h => h
    · simp only [show (v == 0) = false by rw [beq_eq_false_iff_ne]; exact c, q0e]
      exact ((qjd b0 A hA ws ⟨by omega, fun s hs => (hw s hs).1⟩ hy (by omega)).fst).up (by omega) fun _ h => h
  | succ n ih =>
    intro m x ws hl hx hm hw
    refine Dr2.succ (Dr2.congr (fun k k1 => q0a.L4_eq k k1 x b0 (A, []) ws _) ?_)
    have e1 : w64 (((n + 1 : Nat) : Int) - 1) = (n : Int) := by rw [show ((n + 1 : Nat) : Int) - 1 = (n : Int) by omega]; exact q5i (by omega) (by omega)
    simp only [decide_eq_true (show ((n + 1 : Nat) : Int) > 0 by omega), q07, e1]
    refine Dr2.bind (qmw hx (by omega)).snd fun s y hs hy => ?_
    refine Dr2.bindv (qjb ws s (by omega)).snd ?_
    have hlen := (qey s ws).1
    refine (ih (m + 12) y (qja s ws) (by omega) hy (by omega) fun z hz => ?_).up (by omega) fun _ h => h
    rcases qex hz with rfl | hz
    · exact ⟨Nat.le_trans hs.1 (by omega), .inl hs.2⟩
    · exact hw z hz
theorem qez {m : Int} {x : Rdr} (h : Rd m x) (hm : m ≤ 400000000) : Dr (fun k => q0a.f k x) (m + 200) (qa8 50) := by
  refine Dr.congr (fun k => q0a.f_eq k x) (Dr.bind (qka h (by omega)) fun A y hA hy => ?_)
  refine Dr.bind (q4u hy (by omega) 7 (by omega) (by omega)) fun v z hv hz => ?_
  obtain ⟨n, rfl⟩ := Int.eq_ofNat_of_zero_le hv.1
  have h7 := hv.2
  exact ((qkb ([], []) A hA n _ z [] (by simp; omega) hz (by omega) (fun s hs => by simp at hs)).diag).up (by omega) fun _ h => h
end Go.Proofs.YtjfkeknnjjlepaaGreatDoor.Rf
end

section
namespace Go.Proofs.YtjfkeknnjjlepaaGreatDoor.Rf
open Go Go.RowKit
set_option linter.unusedVariables false
set_option linter.unusedSimpArgs false
theorem qi1 {v c : Int} (h : v = c) : (v == c) = true := by simp [h]
theorem qi2 {v c : Int} (h : ¬ v = c) : (v == c) = false := by simp [h]
theorem qi3 {m : Int} {x : Rdr} (h : Rd m x) (hm : m ≤ 800000000) : Dr (fun k => q29.f k x) (m + 3) qs2 := by
  refine Dr.congr (fun k => q29.f_eq k x) (Dr.bind (qj9 h (by omega)) fun a y ha hy => ?_)
  refine Dr.bind (q4u hy (by omega) 12 (by omega) (by omega)) fun v z hv hz => ?_
  by_cases c0 : v = 0
  · simp only [qi1 c0, q07]
    refine Dr.bind (qew hz (by omega) _ (by simp) (by simp)) fun s u hs hu => ?_
    have h8 : s.size ≤ 8 := by
      simp only [List.mem_cons, List.not_mem_nil, or_false] at hs
      rcases hs with rfl | rfl | rfl | rfl <;> decide
    exact Dr.now (v := (s, a.2)) (x := u) (fun k => rfl) ⟨h8, ha.2⟩ (hu.up (by omega))
  simp only [qi2 c0, q0e]
  by_cases c1 : v = 1
  · simp only [qi1 c1, q07]
    refine Dr.bind (qew hz (by omega) _ (by simp) (by simp)) fun s u hs hu => ?_
    have h8 : s.size ≤ 8 := by
      simp only [List.mem_cons, List.not_mem_nil, or_false] at hs
      rcases hs with rfl | rfl | rfl | rfl <;> decide
    exact Dr.now (v := (a.1, a.2.1, s, a.2.2.2)) (x := u) (fun k => rfl) ⟨ha.1, h8, ha.2.2⟩ (hu.up (by omega))
  simp only [qi2 c1, q0e]
  by_cases c2 : v = 2
  · simp only [qi1 c2, q07]
    refine Dr.bind (qew hz (by omega) _ (by simp) (by simp)) fun s u hs hu => ?_
    have h8 : s.size ≤ 8 := by
      simp only [List.mem_cons, List.not_mem_nil, or_false] at hs
      rcases hs with rfl | rfl | rfl | rfl <;> decide
    exact Dr.now (v := (a.1, a.2.1, a.2.2.1, a.2.2.2.1, s)) (x := u) (fun k => rfl) ⟨ha.1, ha.2.1, ha.2.2.1, h8⟩ (hu.up (by omega))
  simp only [qi2 c2, q0e]
  by_cases c3 : v = 3
  · simp only [qi1 c3, q07]
    exact Dr.now (v := (a.1, !a.2.1, a.2.2)) (x := z) (fun k => rfl) ha (hz.up (by omega))
  simp only [qi2 c3, q0e]
  exact Dr.now (v := a) (x := z) (fun k => rfl) ha (hz.up (by omega))
theorem qf0 {α : Type} {P : α → Prop} {l : List α} {a : α} (h : ∀ x ∈ l, P x) (ha : P a) : ∀ x ∈ l ++ [a], P x := fun x hx => (List.mem_append.1 hx).elim (h x) fun e => by rw [List.mem_singleton.1 e]; exact ha
theorem qoz {b : Book} (h : qa8 60 b) : smB b := by
  have l1 := h.1.1
  have l2 := h.2.1
  refine ⟨⟨by omega, fun a ha => ?_⟩, by omega, fun e he => ?_⟩
  · have := h.1.2 a ha; unfold qs2 at this; unfold smA Sm; omega
  · have := h.2.2 e he; unfold qsn at this; unfold smE Sm; omega
theorem qt4 {d : Delta} (h : q9h 60 d) : smD d := by
  have l1 := h.1.1
  have l2 := h.2.1.1
  have l3 := h.2.2.1
  refine ⟨⟨by omega, fun s hs => ?_⟩, ⟨by omega, fun e he => ?_⟩, by omega, fun a ha => ?_⟩
  · have := h.1.2 s hs; unfold Sm; omega
  · have := h.2.1.2 e he; unfold qsn at this; unfold smE Sm; omega
  · have := h.2.2.2 a ha; unfold qs2 at this; unfold smA Sm; omega
theorem qgy {n : Nat} {a b : Book} (ha : qa8 n a) (hb : qa8 n b) : q9h n (q4h a b) := by
  unfold q4h
  split
  · refine ⟨⟨?_, fun s hs => ?_⟩, ⟨?_, fun e he => ?_⟩, ?_⟩
    · simp only [q7z, List.length_map]
      exact Nat.le_trans (List.length_filter_le _ _) ha.2.1
    · simp only [q7z, List.mem_map] at hs
      obtain ⟨e, he, rfl⟩ := hs
      exact (ha.2.2 e (List.mem_filter.1 he).1).1
    · exact Nat.le_trans (List.length_filter_le _ _) hb.2.1
    · exact hb.2.2 e (List.mem_filter.1 he).1
    · show qck n (if a.1 = b.1 then [] else b.1)
      split
      · exact ⟨by simp, fun a ha => by simp at ha⟩
      · exact hb.1
  · exact ⟨⟨by simp, fun s hs => by simp at hs⟩, ⟨by simp, fun s hs => by simp at hs⟩, by simp [qck]⟩
theorem qp0 {m : Int} {x : Rdr} (h : Rd m x) (hm : m ≤ 300000000) : Dr (fun k => q2x.f k x) (m + 500) (q9h 50) := by
  refine Dr.congr (fun k => q2x.f_eq k x) (Dr.bind (qez h (by omega)) fun a y ha hy => ?_)
  refine Dr.bind (qez hy (by omega)) fun b z hb hz => ?_
  refine Dr.bindv (q81 a b (qoz (ha.up (by omega))) (qoz (hb.up (by omega)))) ?_
  have hd := qgy ha hb
  refine Dr.bind (q4u hz (by omega) 3 (by omega) (by omega)) fun v u hv hu => ?_
  by_cases c0 : v = 0
  · simp only [qi1 c0, q07]
    exact Dr.now (v := ([], (q4h a b).2)) (x := u) (fun k => rfl) ⟨⟨by simp, fun s hs => by simp at hs⟩, hd.2⟩ (hu.up (by omega))
  · simp only [qi2 c0, q0e]
    exact Dr.now (v := q4h a b) (x := u) (fun k => rfl) hd (hu.up (by omega))
theorem qi4 {m : Int} {x : Rdr} (h : Rd m x) (hm : m ≤ 200000000) : Dr (fun k => q2a.f k x) (m + 600) (q9h 51) := by
  refine Dr.congr (fun k => q2a.f_eq k x) (Dr.bind (qp0 h (by omega)) fun d y hd hy => ?_)
  have hd1 : q9h 51 d := hd.up (by omega)
  have l1 := hd.1.1
  have l2 := hd.2.1.1
  have l3 := hd.2.2.1
  refine Dr.bind (q4u hy (by omega) 12 (by omega) (by omega)) fun v z hv hz => ?_
  by_cases c0 : v = 0
  · have m0 : decide ((([] : List ByteArray).length + d.1.length) * 16 ≤ q1r) = true := decide_eq_true (by simp [q1r]; omega)
    simp only [qi1 c0, q07, m0]
    refine Dr.bind (qdn hz (by omega)) fun s u hs hu => ?_
    have m1 : decide ((([] ++ d.1).length + [s].length) * 16 ≤ q1r) = true := decide_eq_true (by simp [q1r]; omega)
    simp only [m1, q07]
    exact Dr.now (v := (([] ++ d.1) ++ [s], d.2)) (x := u) (fun k => rfl) ⟨⟨by simp; omega, qf0 hd.1.2 (Nat.le_trans hs (by omega))⟩, hd1.2⟩ (hu.up (by omega))
  simp only [qi2 c0, q0e]
  by_cases c1 : v = 1
  · have m0 : decide ((([] : List En).length + d.2.1.length) * 32 ≤ q1r) = true := decide_eq_true (by simp [q1r]; omega)
    simp only [qi1 c1, q07, m0]
    refine Dr.bind (qdn hz (by omega)) fun s u hs hu => ?_
    refine Dr.bind (qjc s (Nat.le_trans hs (by omega)) hu (by omega)) fun e w he hw => ?_
    have m1 : decide ((([] ++ d.2.1).length + [e].length) * 32 ≤ q1r) = true := decide_eq_true (by simp [q1r]; omega)
    simp only [m1, q07]
    exact Dr.now (v := (d.1, ([] ++ d.2.1) ++ [e], d.2.2)) (x := w) (fun k => rfl) ⟨hd1.1, ⟨by simp; omega, qf0 hd.2.1.2 he⟩, hd1.2.2⟩ (hw.up (by omega))
  simp only [qi2 c1, q0e]
  by_cases c2 : v = 2
  · simp only [qi1 c2, q07]
    exact Dr.now (v := (d.1, d.2.1, !d.2.2.1, d.2.2.2)) (x := z) (fun k => rfl) hd1 (hz.up (by omega))
  simp only [qi2 c2, q0e]
  by_cases c3 : v = 3
  · have m0 : decide ((([] : List Aff).length + d.2.2.2.length) * 72 ≤ q1r) = true := decide_eq_true (by simp [q1r]; omega)
    simp only [qi1 c3, q07, m0]
    refine Dr.bind (qi3 hz (by omega)) fun a u ha hu => ?_
    have m1 : decide ((([] ++ d.2.2.2).length + [a].length) * 72 ≤ q1r) = true := decide_eq_true (by simp [q1r]; omega)
    simp only [m1, q07]
    exact Dr.now (v := (d.1, d.2.1, d.2.2.1, ([] ++ d.2.2.2) ++ [a])) (x := u) (fun k => rfl) ⟨hd1.1, hd1.2.1, by simp; omega, qf0 hd.2.2.2 ha⟩ (hu.up (by omega))
  simp only [qi2 c3, q0e]
  exact Dr.now (v := d) (x := z) (fun k => rfl) hd1 (hz.up (by omega))
end Go.Proofs.YtjfkeknnjjlepaaGreatDoor.Rf
end

section
namespace Go.Proofs.YtjfkeknnjjlepaaGreatDoor.Rf
open Go Go.RowKit
set_option linter.unusedVariables false
set_option linter.unusedSimpArgs false
theorem qn2 (a b : Book) (h1 : Sm a.1.length) (h2 : Sm a.2.length) : Al fun k => q14.f k a b = some (decide (a = b)) := by
  by_cases hl1 : a.1.length = b.1.length
  case neg =>
    refine Al.now fun k => ?_
    rw [q14.f_eq, show ((a.1.length : Int) != (b.1.length : Int)) = true by rw [bne_iff_ne]; omega, q07, decide_eq_false fun e => hl1 (by rw [e])]
  by_cases hl2 : a.2.length = b.2.length
  case neg =>
    refine Al.now fun k => ?_
    rw [q14.f_eq, show ((a.1.length : Int) != (b.1.length : Int)) = false by rw [hl1]; simp, q0e, show ((a.2.length : Int) != (b.2.length : Int)) = true by rw [bne_iff_ne]; omega, q07, decide_eq_false fun e => hl2 (by rw [e])]
  have two : ∀ (t : List En) (i : Nat), a.2.drop i = t → Al2 fun k k1 => q14.L9 k k1 a b (i : Int) = some (decide (t = b.2.drop i)) := by
    intro t
    induction t with
    | nil =>
      intro i hd
      have he := drop_nil hd
      refine Al2.succ (Al2.now fun k k1 => ?_)
      rw [q14.L9_eq, at_end he, q0e, List.drop_eq_nil_of_le (show b.2.length ≤ i by omega), decide_eq_true rfl]
    | cons x t ih =>
      intro i hd
      obtain ⟨hi, g1, g2⟩ := q3p zE hd
      obtain ⟨c1, c2, c3, c4⟩ := q5y hi h2
      have hm : i < b.2.length := by omega
      have hmd : b.2.drop i = b.2[i] :: b.2.drop (i + 1) := List.drop_eq_getElem_cons hm
      have gm : b.2.getD i zE = b.2[i] := by rw [List.getD_eq_getElem?_getD, List.getElem?_eq_getElem hm]; rfl
      have cm : decide ((i : Int) < (b.2.length : Int)) = true := decide_eq_true (by omega)
      refine Al2.succ ((ih (i + 1) g2).mono fun k k1 e => ?_)
      simp only [q14.L9_eq, c1, c2, c3, w64, c4, g1, cm, gm, Bool.and_self, q07, e, qqy, hmd]
      by_cases h : x = b.2[i]
      · rw [decide_eq_true h, Bool.not_true, q0e]
        exact congrArg some (decide_eq_decide.2 ⟨fun e => by rw [h, e], fun e => (List.cons.inj e).2⟩)
      · rw [decide_eq_false h, Bool.not_false, q07]
        exact congrArg some (decide_eq_false fun e => h (List.cons.inj e).1).symm
  have one : ∀ (t : List Aff) (i : Nat), a.1.drop i = t → Al2 fun k k1 => q14.L4 k k1 a b (i : Int) = some (decide (t = b.1.drop i) && decide (a.2 = b.2)) := by
    intro t
    induction t with
    | nil =>
      intro i hd
      have he := drop_nil hd
      refine Al2.succ ((two a.2 0 rfl).diag.fst.mono fun k k1 e => ?_)
      rw [q14.L4_eq, at_end he, q0e, List.drop_eq_nil_of_le (show b.1.length ≤ i by omega), decide_eq_true rfl, Bool.true_and]
      exact e
    | cons x t ih =>
      intro i hd
      obtain ⟨hi, g1, g2⟩ := q3p zA hd
      obtain ⟨c1, c2, c3, c4⟩ := q5y hi h1
      have hm : i < b.1.length := by omega
      have hmd : b.1.drop i = b.1[i] :: b.1.drop (i + 1) := List.drop_eq_getElem_cons hm
      have gm : b.1.getD i zA = b.1[i] := by rw [List.getD_eq_getElem?_getD, List.getElem?_eq_getElem hm]; rfl
      have cm : decide ((i : Int) < (b.1.length : Int)) = true := decide_eq_true (by omega)
      refine Al2.succ ((ih (i + 1) g2).mono fun k k1 e => ?_)
      simp only [q14.L4_eq, c1, c2, c3, w64, c4, g1, cm, gm, Bool.and_self, q07, e, qe9, hmd]
      by_cases h : x = b.1[i]
      · rw [decide_eq_true h, Bool.not_true, q0e]
        exact congrArg (fun z => some (z && decide (a.2 = b.2))) (decide_eq_decide.2 ⟨fun e => by rw [h, e], fun e => (List.cons.inj e).2⟩)
      · rw [decide_eq_false h, Bool.not_false, q07, decide_eq_false fun e => h (List.cons.inj e).1]
        rfl
  refine (one a.1 0 rfl).diag.mono fun k e => ?_
  rw [q14.f_eq, show ((a.1.length : Int) != (b.1.length : Int)) = false by rw [hl1]; simp, q0e, show ((a.2.length : Int) != (b.2.length : Int)) = false by rw [hl2]; simp, q0e, show (0 : Int) = ((0 : Nat) : Int) from rfl, e]
  refine congrArg some ?_
  rw [List.drop_zero, Bool.eq_iff_iff]
  simp only [Bool.and_eq_true, decide_eq_true_eq]
  exact ⟨fun ⟨h1, h2⟩ => Prod.ext h1 h2, fun h => h ▸ ⟨rfl, rfl⟩⟩
theorem qsc {n : Int} (h : (Lit.int .u8 n).wf = true) : 0 ≤ n ∧ n ≤ 255 := by
  simp only [Lit.wf, Bool.and_eq_true, decide_eq_true_eq] at h
  simpa [IntKind.min, IntKind.max, IntKind.bits, IntKind.signed] using h
end Go.Proofs.YtjfkeknnjjlepaaGreatDoor.Rf
end

section
namespace Go.Proofs.YtjfkeknnjjlepaaGreatDoor.Rf
open Go Go.RowKit
set_option linter.unusedVariables false
set_option linter.unusedSimpArgs false
def qsd (s : ByteArray) : Prop := s.size ≤ 1000000
theorem qse {m : Int} {x : Rdr} (h : Rd m x) (hm : m ≤ 1000000000) (l : List Int) (l1 : 1 ≤ l.length) (l2 : l.length ≤ 1000000) : Dr (fun k => q2k.f k x l) (m + 1) fun v => v ∈ l := by
  obtain ⟨v, x', e, ⟨p0, p1⟩, r⟩ := q4u h hm (l.length : Int) (by omega) (by omega)
  have hv : v.toNat < l.length := by omega
  refine ⟨l.getD v.toNat 0, x', e.mono fun k e => ?_, ?_, r⟩
  · have e' : q02.f k x (l.length : Int) = some (v, x') := e
    show q2k.f k x l = _
    rw [q2k.f_eq, e', Option.bind_some]
    simp only [decide_eq_true p0, decide_eq_true p1, Bool.and_self, q07]
  · rw [List.getD_eq_getElem?_getD, List.getElem?_eq_getElem hv]
    exact List.getElem_mem hv
def rlS (r : Release) : Prop := (-10 ≤ r.1 ∧ r.1 ≤ 2000000) ∧ q9h 51 r.2.1 ∧ r.2.2.1.size ≤ 100 ∧ r.2.2.2.size ≤ 100
theorem qsf {r : Release} (h : rlS r) : smR r := ⟨qt4 (h.2.1.up (by omega)), by have := h.2.2.1; omega, by have := h.2.2.2; omega⟩
theorem qr6 {key : ByteArray} {n : Int} {a b : Book} : (qk9 key n a b).1.1 ≤ 1000000 := by
  unfold qk9
  split
  · rename_i h
    simp only [Bool.and_eq_true, decide_eq_true_eq] at h
    split
    · show n + 1 ≤ 1000000
      omega
    · show (0 : Int) ≤ 1000000
      omega
  · show (0 : Int) ≤ 1000000
    omega
theorem qr7 {key : ByteArray} {n : Int} {a b : Book} (ha : qa8 51 a) (hb : qa8 51 b) : rlS (qk9 key n a b).1 := by
  have z : rlS zR := ⟨by simp [zR], ⟨⟨by simp [zR], fun s hs => by simp [zR] at hs⟩, ⟨by simp [zR], fun s hs => by simp [zR] at hs⟩, by simp [zR], fun s hs => by simp [zR] at hs⟩, by show 0 ≤ _; omega, by show 0 ≤ _; omega⟩
  unfold qk9
  split
  · rename_i h
    simp only [Bool.and_eq_true, decide_eq_true_eq] at h
    have hs := q61 (q9o b)
    have hq := qdm key (qf2 (n + 1) (q4h a b) (q7e (q9o b)))
    split
    · refine ⟨?_, qgy ha hb, ?_, ?_⟩
      · show -10 ≤ n + 1 ∧ n + 1 ≤ 2000000
        omega
      · show (q7e (q9o b)).size ≤ _
        omega
      · show (qhz _ _).size ≤ _
        omega
    · exact z
  · exact z
theorem qdo {m : Int} {x : Rdr} (key : ByteArray) (hk : qsd key) (h : Rd m x) (hm : m ≤ 100000000) : Dr (fun k => q20.f k x key) (m + 500) fun r => rlS r ∧ r.1 ≤ 1000000 := by
  unfold qsd at hk
  refine Dr.congr (fun k => q20.f_eq k x key) (Dr.bind (q4u h (by omega) 3 (by omega) (by omega)) fun v y hv hy => ?_)
  refine Dr.bind (qez hy (by omega)) fun a z ha hz => ?_
  refine Dr.bind (qez hz (by omega)) fun b u hb hu => ?_
  have ha' := ha.up (show 50 ≤ 51 by omega)
  have hb' := hb.up (show 50 ≤ 51 by omega)
  refine Dr.bindv (qaa key v a b (by omega) (qoz (ha.up (by omega))) (qoz (hb.up (by omega)))) ?_
  exact Dr.now (fun k => rfl) ⟨qr7 ha' hb', qr6⟩ (hu.up (by omega))
theorem qf1 {m : Int} {x : Rdr} (key : ByteArray) (hk : qsd key) (h : Rd m x) (hm : m ≤ 100000000) : Dr (fun k => q1o.f k x key) (m + 2000) rlS := by
  refine Dr.congr (fun k => q1o.f_eq k x key) (Dr.bind (qdo key hk h hm) fun r y hr hy => ?_)
  obtain ⟨⟨⟨r1, r2⟩, r3, r4, r5⟩, r6⟩ := hr
  refine Dr.bind (q4u hy (by omega) 10 (by omega) (by omega)) fun v z hv hz => ?_
  by_cases c0 : v = 0
  · simp only [qi1 c0, q07]
    refine Dr.bind (qse hz (by omega) _ (by simp) (by simp)) fun n u hn hu => ?_
    refine Dr.now (fun k => rfl) ⟨?_, r3, r4, r5⟩ (hu.up (by omega))
    have hw : w64 (r.1 + 1) = r.1 + 1 := q5i (by omega) (by omega)
    rw [hw] at hn
    simp only [List.mem_cons, List.not_mem_nil, or_false] at hn
    show -10 ≤ n ∧ n ≤ 2000000
    rcases hn with rfl | rfl | rfl <;> omega
  simp only [qi2 c0, q0e]
  by_cases c1 : v = 1
  · simp only [qi1 c1, q07]
    refine Dr.bind (qi4 hz (by omega)) fun d u hd hu => ?_
    exact Dr.now (fun k => rfl) ⟨⟨r1, r2⟩, hd, r4, r5⟩ (hu.up (by omega))
  simp only [qi2 c1, q0e]
  by_cases c2 : v = 2
  · simp only [qi1 c2, q07]
    refine Dr.bindv (q7f _ (by decide)) ?_
    exact Dr.now (fun k => rfl) ⟨⟨r1, r2⟩, r3, by show (q7e _).size ≤ _; rw [q61]; omega, r5⟩ (hz.up (by omega))
  simp only [qi2 c2, q0e]
  by_cases c3 : v = 3
  · simp only [qi1 c3, q07]
    refine Dr.bindv (q7f _ (by decide)) ?_
    refine Dr.bindv (q7f _ (by decide)) ?_
    have hz64 := q61 (⟨#[122]⟩ : ByteArray)
    have hy64 := q61 (⟨#[121]⟩ : ByteArray)
    have hx63 : ((q7e (⟨#[122]⟩ : ByteArray)).extract (1 : Int).toNat ((q7e (⟨#[122]⟩ : ByteArray)).size : Int).toNat).size ≤ 64 := by
      rw [ByteArray.size_extract]; omega
    have h88 : (⟨#[88]⟩ : ByteArray).size = 1 := rfl
    rw [show (decide ((0 : Int) ≤ 1) && (decide ((1 : Int) ≤ ((q7e (⟨#[122]⟩ : ByteArray)).size : Int)) && decide (((q7e (⟨#[122]⟩ : ByteArray)).size : Int) ≤ ((q7e (⟨#[122]⟩ : ByteArray)).size : Int)))) = true by rw [hz64]; rfl,
      q3j (by omega)]
    simp only [q07]
    refine Dr.bind (qew hz (by omega) _ (by simp) (by simp)) fun s u hs hu => ?_
    refine Dr.now (fun k => rfl) ⟨⟨r1, r2⟩, r3, r4, ?_⟩ (hu.up (by omega))
    show s.size ≤ 100
    simp only [List.mem_cons, List.not_mem_nil, or_false] at hs
    rcases hs with rfl | rfl | rfl
    · decide
    · omega
    · rw [ByteArray.size_append]; omega
  simp only [qi2 c3, q0e]
  exact Dr.now (fun k => rfl) ⟨⟨r1, r2⟩, r3, r4, r5⟩ (hz.up (by omega))
end Go.Proofs.YtjfkeknnjjlepaaGreatDoor.Rf
end

section
namespace Go.Proofs.YtjfkeknnjjlepaaGreatDoor.Rf
open Go Go.RowKit
set_option linter.unusedVariables false
set_option linter.unusedSimpArgs false
theorem qgz (l : List ByteArray) (hS : Sm l.length) : Al fun k => q1y.f k l l = some true := by
  have key : ∀ (t : List ByteArray) (i : Nat), l.drop i = t → Al2 fun k k1 => q1y.L4 k k1 l l (i : Int) = some true := by
    intro t
    induction t with
    | nil =>
      intro i hd
      refine Al2.succ (Al2.now fun k k1 => ?_)
      simp only [q1y.L4_eq, at_end (drop_nil hd), q0e]
    | cons x t ih =>
      intro i hd
      obtain ⟨hi, g1, g2⟩ := q3p bz hd
      obtain ⟨c1, c2, c3, c4⟩ := q5y hi hS
      refine Al2.succ ((ih (i + 1) g2).mono fun k k1 e => ?_)
      simp only [q1y.L4_eq, c1, c2, c3, w64, c4, g1, Bool.and_self, q07, e, beq_self_eq_true, Bool.not_true, q0e]
  refine (key l 0 rfl).diag.mono fun k e => ?_
  rw [q1y.f_eq, bne_self_eq_false, q0e]
  exact e
theorem qh0 (d : Delta) (h : smD d) : Al fun k => q3d.f k d d = some true := by
  have s1 : Sm d.1.length := Nat.le_trans h.1.1 (by omega)
  have s2 : Sm d.2.1.length := Nat.le_trans h.2.1.1 (by omega)
  have s3 : Sm d.2.2.2.length := Nat.le_trans h.2.2.1 (by omega)
  refine ((qgz d.1 s1).and (qn2 (d.2.2.2, d.2.1) (d.2.2.2, d.2.1) s3 s2)).mono fun k ⟨e1, e2⟩ => ?_
  rw [q3d.f_eq, e1, Option.bind_some, q07, beq_self_eq_true, q07, e2, Option.bind_some, decide_eq_true rfl]
end Go.Proofs.YtjfkeknnjjlepaaGreatDoor.Rf
end

section
namespace Go.Proofs.YtjfkeknnjjlepaaGreatDoor.Rf
open Go Go.RowKit
set_option linter.unusedVariables false
set_option linter.unusedSimpArgs false
theorem qsg {m : Int} {x : Rdr} (h : Rd m x) (hm : m ≤ 300000000) (t : ByteArray) (ht : t.size ≤ 900000) : Dr (fun k => q3i.f k x t) (m + 3) (szN (t.size + 1)) := by
  have w1 : w64 ((t.size : Int) + 1) = (t.size : Int) + 1 := by rw [w64, q5i (by omega) (by omega)]
  refine Dr.congr (fun k => q3i.f_eq k x t) ?_
  simp only [w1]
  refine Dr.bind (q4u h (by omega) ((t.size : Int) + 1) (by omega) (by omega)) fun v y hv hy => ?_
  refine Dr.bind (q4u hy (by omega) 5 (by omega) (by omega)) fun u z hu hz => ?_
  have b1 : (decide ((0 : Int) ≤ 0) && (decide ((0 : Int) ≤ v) && decide (v ≤ (t.size : Int)))) = true := by
    rw [decide_eq_true (show (0 : Int) ≤ 0 by omega), decide_eq_true (show (0 : Int) ≤ v by omega), decide_eq_true (show v ≤ (t.size : Int) by omega)]; rfl
  have z1 : (t.extract (0 : Int).toNat v.toNat).size ≤ v.toNat := by rw [ByteArray.size_extract]; show min v.toNat t.size - 0 ≤ _; omega
  by_cases c0 : u = 0
  · simp only [qi1 c0, q07, b1]
    refine Dr.bind (qew hz (by omega) _ (by simp) (by simp)) fun s w hs hw => ?_
    have h1 : s.size ≤ 1 := by
      simp only [List.mem_cons, List.not_mem_nil, or_false] at hs
      rcases hs with rfl | rfl | rfl | rfl | rfl | rfl | rfl | rfl <;> decide
    have z2 : (t.extract v.toNat (t.size : Int).toNat).size = t.size - v.toNat := by rw [ByteArray.size_extract]; simp
    have b2 : (decide ((0 : Int) ≤ v) && (decide (v ≤ (t.size : Int)) && decide ((t.size : Int) ≤ (t.size : Int)))) = true := by
      rw [decide_eq_true (show (0 : Int) ≤ v by omega), decide_eq_true (show v ≤ (t.size : Int) by omega), decide_eq_true (Int.le_refl (t.size : Int))]; rfl
    have z3 : ((t.extract (0 : Int).toNat v.toNat) ++ s).size ≤ v.toNat + 1 := by rw [ByteArray.size_append]; omega
    simp only [q3j (show (t.extract (0 : Int).toNat v.toNat).size + s.size ≤ 9223372036854775807 by omega), b2, q07, q3j (show ((t.extract (0 : Int).toNat v.toNat) ++ s).size + (t.extract v.toNat (t.size : Int).toNat).size ≤ 9223372036854775807 by omega)]
    exact Dr.now (x := w) (fun k => rfl) (by show ByteArray.size _ ≤ _; rw [ByteArray.size_append, z2]; omega) (hw.up (by omega))
  · simp only [qi2 c0, q0e]
    by_cases c1 : u = 1
    · simp only [qi1 c1, q07, b1]
      exact Dr.now (x := z) (fun k => rfl) (by show ByteArray.size _ ≤ _; omega) (hz.up (by omega))
    · simp only [qi2 c1, q0e]
      exact Dr.now (x := z) (fun k => rfl) (by show ByteArray.size _ ≤ _; omega) (hz.up (by omega))
end Go.Proofs.YtjfkeknnjjlepaaGreatDoor.Rf
end

section
/- The law FnReleaseText is true. -/
namespace Go.Proofs.YtjfkeknnjjlepaaGreatDoor.Rf
open Go Go.RowKit
set_option linter.unusedVariables false
set_option linter.unusedSimpArgs false
theorem qdp {r : Release} (h : q8c r = true) : (q8d r).size ≤ 1400 := by
  obtain ⟨_, _, _, a5, a6⟩ := q7w h
  have := q5j a5
  rw [qei]; omega
theorem qkc (r : Release) : (qcg r).size ≤ 1400 := by
  unfold qcg
  split
  · rename_i h; exact qdp h
  · show 0 ≤ _; omega
theorem qab (s : List Int) (hs : ∀ b ∈ s, 0 ≤ b ∧ b ≤ 255) : ∃ r, Al (fun k => q1l.f k s = some r) ∧ rlS r := by
  obtain ⟨x, e0, h0⟩ := qgx s hs
  obtain ⟨r, y, e1, hr, hy⟩ := qf1 (⟨#[107, 101, 121]⟩ : ByteArray) (by unfold qsd; decide) h0 (by omega)
  refine ⟨r, (e0.and e1).mono fun k ⟨a0, a1⟩ => ?_, hr⟩
  have a1' : q1o.f k x (⟨#[107, 101, 121]⟩ : ByteArray) = some (r, y) := a1
  simp only [q1l.f_eq, a0, a1', Option.bind_some]
theorem qac (s : List Int) (hs : ∀ b ∈ s, 0 ≤ b ∧ b ≤ 255) : ∃ t, Al (fun k => q1m.f k s = some t) ∧ t.size ≤ 2000 := by
  obtain ⟨x, e0, h0⟩ := qgx s hs
  obtain ⟨r, y, e1, ⟨hr, _⟩, hy⟩ := qdo (⟨#[107, 101, 121]⟩ : ByteArray) (by unfold qsd; decide) h0 (by omega)
  have hp := qkc r
  obtain ⟨t, z, e2, ht, hz⟩ := qsg hy (by omega) (qcg r) (by omega)
  refine ⟨t, ((e0.and e1).and ((q4k r (qsf hr)).and e2)).mono fun k ⟨⟨a0, a1⟩, a2, a3⟩ => ?_, by unfold szN at ht; omega⟩
  have a1' : q20.f k x (⟨#[107, 101, 121]⟩ : ByteArray) = some (r, y) := a1
  have a3' : q3i.f k y (qcg r) = some (t, z) := a3
  simp only [q1m.f_eq, a0, a1', a2, a3', Option.bind_some]
theorem q8n (r : Release) (h : smR r) : Al fun k => q2l.f k r r = some true :=
  (qh0 r.2.1 h.1).mono fun k e => by rw [q2l.f_eq, beq_self_eq_true, q07, e, Option.bind_some, q07, beq_self_eq_true, q07, beq_self_eq_true]
theorem qr8 {r : Release} (h : q8c r = true) : smR r := by
  obtain ⟨_, a3, a4, a5, a6⟩ := q7w h
  have h1 := q5j a4
  have h2 := q5j a5
  refine ⟨?_, by omega, by omega⟩
  obtain ⟨⟨a1, a2⟩, ⟨a3, a4⟩, a5, a6⟩ := qgd a3
  refine ⟨⟨by omega, fun s hs => ?_⟩, ⟨by omega, fun e he => ?_⟩, by omega, fun a ha => ?_⟩
  · have := a2 s hs; unfold Sm; omega
  · have := a4 e he; unfold tE at this; unfold smE Sm; omega
  · have := a6 a ha; unfold tA at this; unfold smA Sm; omega
theorem qt5 : smR zR := ⟨⟨⟨by simp [zR], fun s hs => by simp [zR] at hs⟩, ⟨by simp [zR], fun s hs => by simp [zR] at hs⟩, by simp [zR], fun s hs => by simp [zR] at hs⟩, by show 0 ≤ _; omega, by show 0 ≤ _; omega⟩
theorem qje (x : ByteArray) : smR (q53 x).1 := by
  cases h : (q53 x).2 with
  | true => exact qr8 (qhv h).1
  | false => rw [qme h]; exact qt5
theorem qr9 (r : Release) : q8d r ≠ bz := fun e => by
  have h := qei r
  rw [e] at h
  have : bz.size = 0 := rfl
  omega
theorem q9p (s t : List Int) (hs : qau (.row (.int .u8)) s) (ht : qau (.row (.int .u8)) t) : ∃ k, q09.f k s t = some true := by
  by_cases hl : (s.length : Int) > 1048576
  · exact ⟨0, by rw [q09.f_eq, decide_eq_true hl, q07]⟩
  by_cases hl2 : (t.length : Int) > 1048576
  · exact ⟨0, by rw [q09.f_eq, decide_eq_false hl, q0e, decide_eq_true hl2, q07]⟩
  obtain ⟨r, e0, hr⟩ := qab s fun b hb => qsc (hs.2 b hb)
  obtain ⟨x, e1, hx⟩ := qac t fun b hb => qsc (ht.2 b hb)
  have sm := qsf hr
  have J11 : Al fun k => q09.J11 k t = some true := by
    have f1 := (e1.and ((q5c x (by omega)).and (q6f x (by omega)))).and (q8n (q53 x).1 (qje x))
    cases h : (q53 x).2 with
    | false =>
      refine Al.succ (f1.mono fun k ⟨⟨a0, a1, a2⟩, a3⟩ => ?_)
      rw [q09.J11_eq, a0, Option.bind_some, a1, Option.bind_some, a2, Option.bind_some, beq_self_eq_true, q07, a3, Option.bind_some, q07, h, Bool.not_false, q07]
    | true =>
      obtain ⟨h1, h2⟩ := qhv h
      have hp := q4j (q53 x).1 (qje x)
      rw [qcg, if_pos h1, h2] at hp
      refine Al.succ ((f1.and hp).mono fun k ⟨⟨⟨a0, a1, a2⟩, a3⟩, a4⟩ => ?_)
      rw [q09.J11_eq, a0, Option.bind_some, a1, Option.bind_some, a2, Option.bind_some, beq_self_eq_true, q07, a3, Option.bind_some, q07, h, Bool.not_true, q0e, a4, Option.bind_some, beq_self_eq_true]
  cases hB : q8c r with
  | false =>
    have hp : qcg r = bz := by unfold qcg; rw [hB]; rfl
    have f := ((e0.and (q4j r sm)).and (q4k r sm)).and J11
    rw [hp] at f
    refine (f.mono fun k ⟨⟨⟨a0, a1⟩, a2⟩, a3⟩ => ?_).get
    rw [q09.f_eq, decide_eq_false hl, q0e, decide_eq_false hl2, q0e, a0, Option.bind_some, a1, Option.bind_some, a2, Option.bind_some, beq_self_eq_true, Bool.not_true, q0e, q0e, a3]
  | true =>
    have hp : qcg r = q8d r := by unfold qcg; rw [hB]; rfl
    have hz := qdp hB
    have hg := qmn hB
    have J9 : Al2 fun k k1 => q09.J9 k k1 t r r true = some true :=
      Al2.succ (((q8n r sm).snd.and J11.fst).mono fun k k1 ⟨a0, a1⟩ => by
        rw [q09.J9_eq, Bool.not_true, q0e, a0, Option.bind_some, Bool.not_true, q0e, a1])
    have f := ((e0.and (q4j r sm)).and (q4k r sm)).and ((q5c (q8d r) (by omega)).and J9.diag)
    rw [hp, hg] at f
    refine (f.mono fun k ⟨⟨⟨a0, a1⟩, a2⟩, a3, a4⟩ => ?_).get
    rw [q09.f_eq, decide_eq_false hl, q0e, decide_eq_false hl2, q0e, a0, Option.bind_some, a1, Option.bind_some, a2, Option.bind_some, beq_self_eq_true, Bool.not_true, q0e, q5l, decide_eq_false (qr9 r), Bool.not_false, q07, a3, Option.bind_some, a4]
end Go.Proofs.YtjfkeknnjjlepaaGreatDoor.Rf
end

section
/- 'FnReleaseText': for every input it returns true and its arguments read as before. Conditions: those of the given row alone (the listed package variables as the program's text lays them). -/
namespace Go.Proofs.YtjfkeknnjjlepaaGreatDoor.fnReleaseText
open Go.ChangeShapes Go.WideShapes Go.ChangeAt Go.RowKit
open Go.Proofs.YtjfkeknnjjlepaaGreatDoor.Rf Go.Proofs.YtjfkeknnjjlepaaGreatDoor.Frame
set_option linter.unusedVariables false
theorem own : ownKnob Tryz.prog.godebug = none := by kernel_rfl
set_option maxRecDepth 100000 in
theorem kLa : laidOutB Tryz.prog = true := by kernel_rfl
set_option maxRecDepth 100000 in
theorem kMr : mapsRowed Tryz.prog = true := by kernel_rfl
set_option maxRecDepth 100000 in
theorem kPk : (Rows.fnExactReleaseGetRow.plainKeys == Tryz.prog.plainKeys) = true := by kernel_rfl
set_option maxRecDepth 100000 in
theorem kSh : Tryz.prog.stopsHeard = true := by kernel_rfl
set_option maxRecDepth 100000 in
theorem kMe : Tryz.prog.mayEnter = true := by kernel_rfl
set_option maxRecDepth 100000 in
theorem kLi : (Rows.fnExactReleaseGetRow.lifted == Tryz.prog.liftsFinal) = true := by kernel_rfl
set_option maxRecDepth 100000 in
theorem kMk : (Tryz.prog.make == some Rows.fnExactReleaseGetRow.make) = true := by kernel_rfl
theorem laidOut : laidOutB Tryz.prog = true := kLa
set_option maxRecDepth 100000 in
theorem contract (H : Type) (enc : TypeId × Value → H) (W : World) (base : Nat) (args : Array Value) (ds gs : List (DataW H)) (before : List MemPlace)
    (hval0 : ∀ (j : Nat) t v, Tryz.f4.params[j]? = some t → args[j]? = some v → Value.okWide Tryz.prog W .any base t v)
    (hW : DataW.Whole enc Tryz.prog Tryz.f4.params.toList Rows.fnReleaseTextSpec.vars false W args.toList ds gs before)
    (hsz0 : (DataW.weightsEach Tryz.prog (Tryz.f4.params.toList ++ (OpenSpec.ofChange Rows.fnReleaseTextSpec).bare.plain.varTypes Tryz.prog) (ds ++ gs)).all (· ≤ reachBytes) = true)
    (hL : laidMetH Tryz.prog Rows.fnReleaseTextRow.laid W) (hsh : W.ShapedOpen Tryz.prog) :
    Calls Tryz.prog 4 args W fun e W' => ∃ v, e = .returned v ∧ Rows.fnReleaseTextSpec.post enc Tryz.prog Tryz.f4 false true false false W args v W' := by
  have hGm : ∃ x : Int, W.cell? ⟨3, 0, none⟩ = some (.int .i64 x) := Go.Proofs.cell_of_shapedOpen_int (zero := #[.int .i64 0]) (t := 3) hsh (of_decide_eq_true (by kernel_rfl)) (by kernel_rfl) rfl (by kernel_rfl) (by kernel_rfl) Tryz.underlying3
  have hGp : Lib.TabIs Tryz.prog W "internal/strconv.uint64pow10" .u64 Lib.pow10Tab := qar (show Tryz.prog.globalNamed "internal/strconv.uint64pow10" = some 6 by kernel_rfl) (show (Tryz.prog.globals[6]?).map (·.type) = some 276 by kernel_rfl) Tryz.underlying276 Tryz.underlying194 (by kernel_rfl) (by kernel_rfl) hL (by rw [show Lib.tabData .u64 Lib.pow10Tab = Rows.laid_internal_strconv_uint64pow10 from by kernel_rfl]; simp [Rows.fnReleaseTextRow])
  have hGe := q6g (show Tryz.prog.globalNamed "strconv.ErrSyntax" = some 1 by kernel_rfl) (show (Tryz.prog.globals[1]?).map (·.type) = some 90 by kernel_rfl) Tryz.underlying90 hL (show ("strconv.ErrSyntax", Rows.laid_strconv_ErrSyntax) ∈ Rows.fnReleaseTextRow.laid by simp [Rows.fnReleaseTextRow])
  have hGr := q6g (show Tryz.prog.globalNamed "strconv.ErrRange" = some 2 by kernel_rfl) (show (Tryz.prog.globals[2]?).map (·.type) = some 90 by kernel_rfl) Tryz.underlying90 hL (show ("strconv.ErrRange", Rows.laid_strconv_ErrRange) ∈ Rows.fnReleaseTextRow.laid by simp [Rows.fnReleaseTextRow])
  have hJ : Jp.J W := ⟨hGm, hGp, hGe, hGr⟩
  clear hsh hL
  have hsz := hsz0
  have hval := hval0
  have hW' := hW
  obtain ⟨p, q, hA0, hV, rfl, hfz, hnd⟩ := hW
  have hA : DataW.TrodAll enc Tryz.prog W 0 (fun _ => true) true Tryz.f4.params.toList args.toList ds p := hA0
  rw [Tryz.params4] at hA hval
  obtain ⟨v0, vs0, d0, ds0, p0, q0, hargs, rfl, rfl, h0, r0⟩ := trodAll_cons hA
  obtain ⟨v1, vs1, d1, ds1, p1, q1, rfl, rfl, rfl, h1, r1⟩ := trodAll_cons r0
  obtain ⟨rfl, rfl, rfl⟩ := trodAll_nil r1
  obtain rfl : args = #[v0, v1] := by cases args; simp_all
  have lt0 : ∀ x ∈ p0, x.block < W.heap.size := by obtain ⟨m, hm⟩ := h0; exact DataW.trod_lt m _ _ _ hm
  obtain ⟨x0, o0, G0⟩ := qe7 (τ := t34) (show q4a Tryz.prog t34 (.inl 34) = true by kernel_rfl) (hval 0 34 v0 rfl rfl) h0
  have lt1 : ∀ x ∈ p1, x.block < W.heap.size := by obtain ⟨m, hm⟩ := h1; exact DataW.trod_lt m _ _ _ hm
  obtain ⟨x1, o1, G1⟩ := qe7 (τ := t34) (show q4a Tryz.prog t34 (.inl 34) = true by kernel_rfl) (hval 1 34 v1 rfl rfl) h1
  obtain ⟨rfl, rfl⟩ := trodVars_none hV
  clear hA0 hval0 hsz0
  obtain ⟨k, hk⟩ := q9p x0 x1 G0 G1
  refine (row_of (q09.q k).1 rfl (x := (x0, x1)) (r := true) hk rfl (qtb hJ) hJ rfl ?_).mono fun e W' ⟨he, bel⟩ => ?_
  · intro i p s hp hs
    match i, hp, hs with
    | 0, _, hs => obtain rfl := Option.some.inj (show some (⟨t34, x0⟩ : Sv) = some s from hs); exact o0
    | 1, _, hs => obtain rfl := Option.some.inj (show some (⟨t34, x1⟩ : Sv) = some s from hs); exact o1
    | i + 2, hp, _ => simp at hp
  subst he
  exact ⟨_, rfl, _, _, _, [], _, [], hW', trodAll_mk1 (shut_bool Tryz.underlying4 _), (trodAll_cons_mk (Below.trod laidOut (by kernel_rfl) (of_decide_eq_true (by kernel_rfl)) h0 bel lt0) (trodAll_cons_mk (Below.trod laidOut (by kernel_rfl) (of_decide_eq_true (by kernel_rfl)) h1 bel lt1) trodAll_mk0)), rfl, bel.frame _, fun h => by cases h⟩
noncomputable def q66 (os : Os) : World := World.laidAll Tryz.prog os Rows.fnReleaseTextRow.laid
set_option maxRecDepth 100000 in
theorem qeo (os : Os) : laidMet Tryz.prog Rows.fnReleaseTextRow.laid ((q66 os).forCall (fun _ _ => 0) ⟨#[], #[.slice none 0 0, .slice none 0 0], []⟩).memory :=
  laidMet_laidAll _ (by kernel_rfl) (by kernel_rfl)
set_option maxRecDepth 100000 in
theorem reads (os : Os) {H : Type} (enc : TypeId × Value → H) : ∃ x, DataW.whole enc Tryz.prog ((q66 os).forCall (fun _ _ => 0) ⟨#[], #[.slice none 0 0, .slice none 0 0], []⟩).memory Tryz.f4.params.toList Rows.fnReleaseTextSpec.vars false #[(.slice none 0 0 : Value), (.slice none 0 0 : Value)].toList 12 = some x :=
  Option.isSome_iff_exists.1 (by kernel_rfl)
set_option maxRecDepth 100000 in
theorem lifted (os : Os) (started : os.Started) (H : Type) (enc : TypeId × Value → H) (F : Stop.Interp) :
    ReturnsInHanded {} Tryz.checked os 4 .any ((OpenSpec.ofChange Rows.fnReleaseTextSpec).preRow enc Tryz.prog Tryz.f4 Rows.fnReleaseTextRow.domain false Rows.fnReleaseTextRow.laid) (((OpenSpec.ofChange Rows.fnReleaseTextSpec).at F).post enc Tryz.prog Tryz.f4 false true false false) := by
  obtain ⟨x, hx⟩ := reads os enc
  refine returnsInHanded_of_row (C := Tryz.checked) (s := OpenSpec.ofChange Rows.fnReleaseTextSpec) own started (by kernel_rfl) Tryz.func4
    (witness_row_at (enc := enc) (C := Tryz.checked) false (q66 os) #[.slice none 0 0, .slice none 0 0] rfl (by kernel_rfl) (by kernel_rfl) (by kernel_rfl)
      (OpenSpec.preRow_of_cond 12 (x := x) hx (by kernel_rfl) (fun k hk => by cases hk) (by kernel_rfl) (qeo os))) ?_
  intro W base args ds gs before hval hW _ _ hsz hL hsh _
  exact contract H enc W base args ds gs before hval hW hsz hL hsh
theorem kIp : (Rows.fnReleaseTextRow.inPlace == Tryz.prog.inPlace 4) = true := by kernel_rfl
theorem kUn : (Rows.fnReleaseTextRow.unfollowed == Tryz.prog.unfollowed 4) = true := by kernel_rfl
theorem kRe : (Rows.fnReleaseTextRow.recurses == Tryz.prog.recurses 4) = true := by kernel_rfl
theorem kNa : (Rows.fnReleaseTextRow.named == Tryz.prog.varsNamed 4) = true := by kernel_rfl
theorem kGo : false = Rows.fnReleaseTextRow.goesBy Tryz.prog := by kernel_rfl
theorem closed : joinedFacts Tryz.prog 4 Tryz.f4 (OpenSpec.ofChange Rows.fnReleaseTextSpec).bare Rows.fnReleaseTextRow = true := by
  have kMk' : (Tryz.prog.make == some Rows.fnReleaseTextRow.make) = true := kMk
  have kLi' : (Rows.fnReleaseTextRow.lifted == Tryz.prog.liftsFinal) = true := kLi
  have kPk' : (Rows.fnReleaseTextRow.plainKeys == Tryz.prog.plainKeys) = true := kPk
  unfold joinedFacts
  rw [kIp, kUn, kRe, kNa, kLa, kMr, kPk', kSh, kMe, kLi', kMk']
  show _ = true
  kernel_rfl
theorem said : Rows.FnReleaseTextSaid :=
  OpenClaim.holds_of_cond 4 Tryz.f4 rfl rfl rfl rfl rfl rfl rfl ⟨rfl, rfl, rfl, rfl, rfl⟩ rfl rfl rfl rfl rfl (by kernel_rfl) Tryz.func4 closed
    (of_decide_eq_true (by kernel_rfl)) (by unfold Func.isWrapper; first | (rw [if_pos (by decide +kernel)]; kernel_rfl) | (rw [if_neg (by decide +kernel)]; exact ⟨rfl, rfl⟩))
    (fun os started H enc _ F => by rw [OpenClaim.pre_eq_preRow]; exact lifted os started H enc F)
theorem plain (f : FuncId) (fn : Func) (hf : Tryz.pinned.checked.prog.funcNamed "loop.example/medlar/laws.FnReleaseText" = some f) (hfn : Tryz.pinned.checked.prog.funcs[f]? = some fn) :
    true = Tryz.pinned.checked.prog.looks [] ∧ ∀ (j : Nat) t, fn.params[j]? = some t → Tryz.pinned.checked.prog.wantsStandIn t = false := by
  obtain rfl : f = 4 := Option.some.inj ((show Tryz.prog.funcNamed "loop.example/medlar/laws.FnReleaseText" = some 4 by kernel_rfl).symm.trans hf) |>.symm
  obtain rfl : fn = Tryz.f4 := (Option.some.inj (Tryz.func4.symm.trans hfn)).symm
  refine ⟨by kernel_rfl, fun j t ht => ?_⟩
  rw [Tryz.params4] at ht
  have hm := Array.mem_of_getElem? ht
  simp only [List.mem_toArray, List.mem_cons, List.not_mem_nil, or_false] at hm
  rcases hm with rfl | rfl
  · exact (show Tryz.prog.wantsStandIn 34 = false by kernel_rfl)
  · exact (show Tryz.prog.wantsStandIn 34 = false by kernel_rfl)
theorem card : Rows.FnReleaseTextCardSaid :=
  Claim7.holds_tied_plain_at .later [] _ _ _ _ said (fun _ h => by cases h) (by kernel_rfl) (fun _ h => by cases h) fnReleaseText_row_tie rfl ⟨rfl, rfl⟩ (by kernel_rfl) rfl plain kGo
end Go.Proofs.YtjfkeknnjjlepaaGreatDoor.fnReleaseText
namespace Go.Proofs.YtjfkeknnjjlepaaGreatDoor
theorem fnReleaseText_holds : Rows.FnReleaseTextCardSaid := fnReleaseText.card
end Go.Proofs.YtjfkeknnjjlepaaGreatDoor
end
