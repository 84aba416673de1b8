import Derived.Test.YtnjdoinlnbjedaaGreatDoorE1
import Derived.Test.YtnjdoinlnbjedaaGreatDoorEz1
import Derived.Test.YtnjdoinlnbjedaaGreatDoorKz2
import Derived.Test.YtnjdoinlnbjedaaGreatDoorRows
import Derived.Test.YtnjdoinlnbjedaaGreatDoorCards
import Derived.Test.YtnjdoinlnbjedaaGreatDoorTie
import Derived.WalkKit
import Derived.ProofKit
import Derived.OpenShut
import Derived.ShutString
import Derived.ChangeOld
import Derived.Below
import Derived.Carry
import Derived.SizedLaws
import Derived.Deep.DeepHandedRow
import Derived.Lib.LaidTab

section
namespace Go.Proofs.YtnjdoinlnbjedaaGreatDoor.Rf
open Go Go.RowKit
set_option linter.unusedVariables false
noncomputable section
def q06.C (k : Nat) : CEs := []
abbrev q06.ps : List Par := [⟨t24, .rd⟩, ⟨t92, .rd⟩]
abbrev q06.rs : List Res := [⟨(.int .i64), .ro, false⟩]
def q06.H : q4o := [(2, [(0, .ro), (3, .ro), (7, .ro), (8, .ro)])]
def q06.F := q4p E q06.C q06.H Tryz.f140 q06.ps q06.rs
def q06.L2 (k k1 : Nat) (x0 : List En) (x3 : ByteArray × ByteArray) (x7 : Int) (x8 : Int) : Option (Int) := atL E q06.C q06.H Tryz.f140 q06.ps q06.rs [true, false, true, true] k [] k1 (sh 19 [(0, .d t24 x0 .ro), (3, .box t92 x3 .ro none), (7, .d (.int .i64) x7 .ro), (8, .d (.int .i64) x8 .ro)])
def q06.f (k : Nat) (x0 : List En) (x1 : ByteArray × ByteArray) : Option (Int) := q06.F k (x0, x1)
theorem q06.f_eq (k : Nat) (x0 : List En) (x1 : ByteArray × ByteArray) : q06.f k x0 x1 = q06.L2 k k x0 x1 (x0.length : Int) (0 : Int) := by kernel_rfl
theorem q06.L2_eq (k k1 : Nat) (x0 : List En) (x3 : ByteArray × ByteArray) (x7 : Int) (x8 : Int) : q06.L2 k (k1 + 1) x0 x3 x7 x8 = ifb (decide (x8 < x7)) (ifb (decide (0 ≤ x8) && decide (x8 < (x0.length : Int))) (ifb ((x3.1.toList == ((x0.getD x8.toNat zE).1).toList) && (x3.2.toList == ((x0.getD x8.toNat zE).2).toList)) (some x8) (q06.L2 k k1 x0 x3 x7 (w64 (x8 + 1)))) (none)) (some (-1 : Int)) := by kernel_rfl
abbrev q06.e (k : Nat) : FuncId × CE := (140, ⟨q06.ps, q06.rs, q06.F k⟩)
theorem q06.q (k : Nat) : Qs (q06.e k) := qq (C := q06.C) (fun k => .nil) k
def q0c.C (k : Nat) : CEs := [q06.e k]
abbrev q0c.ps : List Par := [⟨t24, .rd⟩, ⟨t92, .rd⟩]
abbrev q0c.rs : List Res := [⟨.bool, .ro, false⟩]
def q0c.F := q4p E q0c.C [] Tryz.f104 q0c.ps q0c.rs
def q0c.f (k : Nat) (x0 : List En) (x1 : ByteArray × ByteArray) : Option (Bool) := q0c.F k (x0, x1)
theorem q0c.f_eq (k : Nat) (x0 : List En) (x1 : ByteArray × ByteArray) : q0c.f k x0 x1 = (q06.f k x0 x1).bind fun (r0 : Int) => some (decide (r0 ≥ (0 : Int))) := by kernel_rfl
abbrev q0c.e (k : Nat) : FuncId × CE := (104, ⟨q0c.ps, q0c.rs, q0c.F k⟩)
theorem q0c.q (k : Nat) : Qs (q0c.e k) := qq (C := q0c.C) (fun k => .c (q06.q k) <| .nil) k
def q04.C (k : Nat) : CEs := []
abbrev q04.ps : List Par := [⟨t25, .rd⟩, ⟨t25, .rd⟩]
abbrev q04.rs : List Res := [⟨.bool, .ro, false⟩]
def q04.H : q4o := [(4, [(0, .ro), (1, .ro), (12, .ro), (13, .ro)])]
def q04.F := q4p E q04.C q04.H Tryz.f105 q04.ps q04.rs
def q04.L4 (k k1 : Nat) (x0 : List Aff) (x1 : List Aff) (x12 : Int) (x13 : Int) : Option (Bool) := atL E q04.C q04.H Tryz.f105 q04.ps q04.rs [true, true, false, true, true] k [] k1 (sh 26 [(0, .d t25 x0 .ro), (1, .d t25 x1 .ro), (12, .d (.int .i64) x12 .ro), (13, .d (.int .i64) x13 .ro)])
def q04.f (k : Nat) (x0 : List Aff) (x1 : List Aff) : Option (Bool) := q04.F k (x0, x1)
theorem q04.f_eq (k : Nat) (x0 : List Aff) (x1 : List Aff) : q04.f k x0 x1 = ifb ((x0.length : Int) != (x1.length : Int)) (some false) (q04.L4 k k x0 x1 (x0.length : Int) (0 : Int)) := by kernel_rfl
theorem q04.L4_eq (k k1 : Nat) (x0 : List Aff) (x1 : List Aff) (x12 : Int) (x13 : Int) : q04.L4 k (k1 + 1) x0 x1 x12 x13 = ifb (decide (x13 < x12)) (ifb (decide (0 ≤ x13) && decide (x13 < (x0.length : Int))) (ifb (decide (0 ≤ x13) && decide (x13 < (x1.length : Int))) (ifb (!((((x0.getD x13.toNat zA).1).toList == ((x1.getD x13.toNat zA).1).toList) && ((((x0.getD x13.toNat zA).2).1 == ((x1.getD x13.toNat zA).2).1) && ((((((x0.getD x13.toNat zA).2).2).1).toList == ((((x1.getD x13.toNat zA).2).2).1).toList) && (((((((x0.getD x13.toNat zA).2).2).2).1).toList == (((((x1.getD x13.toNat zA).2).2).2).1).toList) && ((((((x0.getD x13.toNat zA).2).2).2).2).toList == (((((x1.getD x13.toNat zA).2).2).2).2).toList)))))) (some false) (q04.L4 k k1 x0 x1 x12 (w64 (x13 + 1)))) (none)) (none)) (some true) := by kernel_rfl
abbrev q04.e (k : Nat) : FuncId × CE := (105, ⟨q04.ps, q04.rs, q04.F k⟩)
theorem q04.q (k : Nat) : Qs (q04.e k) := qq (C := q04.C) (fun k => .nil) k
def q0x.C (k : Nat) : CEs := [q2w.e k, q2j.e k, q0c.e k, q04.e k]
abbrev q0x.ps : List Par := [⟨t38, .rd⟩, ⟨t38, .rd⟩]
abbrev q0x.rs : List Res := [⟨t26, (.pr (.own .ro) (.pr (.own .ro) (.pr .ro (.own .ro)))), false⟩]
def q0x.H : q4o := [(5, [(2, .ro), (3, .ro), (4, (.pr (.own .ro) (.pr (.own .ro) (.pr .ro (.own .ro))))), (5, (.pr (.own .ro) (.pr (.own .ro) (.pr .ro (.own .ro))))), (24, .ro), (25, .ro), (26, .ro)]), (11, [(2, .ro), (3, .ro), (4, (.pr (.own .ro) (.pr (.own .ro) (.pr .ro (.own .ro))))), (5, (.pr (.own .ro) (.pr (.own .ro) (.pr .ro (.own .ro))))), (45, .ro), (46, .ro), (47, .ro)])]
def q0x.F := q4p E q0x.C q0x.H Tryz.f54 q0x.ps q0x.rs
def q0x.L5 (k k1 : Nat) (x2 : Book) (x3 : Book) (x4 : Delta) (x5 : Delta) (x24 : List En) (x25 : Int) (x26 : Int) : Option Delta := atL E q0x.C q0x.H Tryz.f54 q0x.ps q0x.rs [true, true, true, false, true, true] k [] k1 (sh 77 [(2, .box t38 x2 .ro none), (3, .box t38 x3 .ro none), (4, .box t26 x4 (.pr (.own .ro) (.pr (.own .ro) (.pr .ro (.own .ro)))) none), (5, .box t26 x5 (.pr (.own .ro) (.pr (.own .ro) (.pr .ro (.own .ro)))) none), (24, .d t24 x24 .ro), (25, .d (.int .i64) x25 .ro), (26, .d (.int .i64) x26 .ro)])
def q0x.L11 (k k1 : Nat) (x2 : Book) (x3 : Book) (x4 : Delta) (x5 : Delta) (x45 : List En) (x46 : Int) (x47 : Int) : Option Delta := atL E q0x.C q0x.H Tryz.f54 q0x.ps q0x.rs [true, true, true, true, false, true, true] k [] k1 (sh 77 [(2, .box t38 x2 .ro none), (3, .box t38 x3 .ro none), (4, .box t26 x4 (.pr (.own .ro) (.pr (.own .ro) (.pr .ro (.own .ro)))) none), (5, .box t26 x5 (.pr (.own .ro) (.pr (.own .ro) (.pr .ro (.own .ro)))) none), (45, .d t24 x45 .ro), (46, .d (.int .i64) x46 .ro), (47, .d (.int .i64) x47 .ro)])
def q0x.f (k : Nat) (x0 : Book) (x1 : Book) : Option Delta := q0x.F k (x0, x1)
theorem q0x.f_eq (k : Nat) (x0 : Book) (x1 : Book) : q0x.f k x0 x1 = (q2j.f k x0).bind fun (r0 : Bool) => ifb (!r0) (some (([] : List ByteArray), ([] : List En), false, ([] : List Aff))) ((q2j.f k x1).bind fun (r1 : Bool) => ifb (!r1) (some (([] : List ByteArray), ([] : List En), false, ([] : List Aff))) (q0x.L5 k k x0 x1 (([] : List ByteArray), ([] : List En), false, ([] : List Aff)) (([] : List ByteArray), ([] : List En), false, ([] : List Aff)) x0.2 (x0.2.length : Int) (0 : Int))) := by kernel_rfl
theorem q0x.L5_eq (k k1 : Nat) (x2 : Book) (x3 : Book) (x4 : Delta) (x5 : Delta) (x24 : List En) (x25 : Int) (x26 : Int) : q0x.L5 k (k1 + 1) x2 x3 x4 x5 x24 x25 x26 = ifb (decide (x26 < x25)) (ifb (decide (0 ≤ x26) && decide (x26 < (x24.length : Int))) ((q2w.f k1 x3.2 ((x24.getD x26.toNat zE).1)).bind fun (r2 : Int) => ifb (decide (r2 < 0)) (ifb (decide ((x5.1.length + [(x24.getD x26.toNat zE).1].length) * 16 ≤ q0u)) (q0x.L5 k k1 x2 x3 x4 ((x5.1 ++ [(x24.getD x26.toNat zE).1]), x5.2) x24 x25 (w64 (x26 + 1))) (none)) (q0x.L5 k k1 x2 x3 x4 x5 x24 x25 (w64 (x26 + 1)))) (none)) (q0x.L11 k k x2 x3 x4 x5 x3.2 (x3.2.length : Int) (0 : Int)) := by kernel_rfl
theorem q0x.L11_eq (k k1 : Nat) (x2 : Book) (x3 : Book) (x4 : Delta) (x5 : Delta) (x45 : List En) (x46 : Int) (x47 : Int) : q0x.L11 k (k1 + 1) x2 x3 x4 x5 x45 x46 x47 = ifb (decide (x47 < x46)) (ifb (decide (0 ≤ x47) && decide (x47 < (x45.length : Int))) ((q0c.f k1 x2.2 (x45.getD x47.toNat zE)).bind fun (r3 : Bool) => ifb (!r3) (ifb (decide ((x5.2.1.length + [(x45.getD x47.toNat zE)].length) * 32 ≤ q0u)) (q0x.L11 k k1 x2 x3 x4 (x5.1, (x5.2.1 ++ [(x45.getD x47.toNat zE)]), x5.2.2) x45 x46 (w64 (x47 + 1))) (none)) (q0x.L11 k k1 x2 x3 x4 x5 x45 x46 (w64 (x47 + 1)))) (none)) ((q04.f k x2.1 x3.1).bind fun (r4 : Bool) => ifb (!r4) (ifb (decide ((x5.2.2.2.length + x3.1.length) * 72 ≤ q0u)) (some (x5.1, x5.2.1, true, (x5.2.2.2 ++ x3.1))) (none)) (some x5)) := by kernel_rfl
abbrev q0x.e (k : Nat) : FuncId × CE := (54, ⟨q0x.ps, q0x.rs, q0x.F k⟩)
theorem q0x.q (k : Nat) : Qs (q0x.e k) := qq (C := q0x.C) (fun k => .c (q2w.q k) <| .c (q2j.q k) <| .c (q0c.q k) <| .c (q04.q k) <| .nil) k
def q2r.C (k : Nat) : CEs := [q35.e k, q2j.e k, q40.e k, q13.e k, q0i.e k, q3o.e k, q0w.e k, q3f.e k, q0x.e k]
abbrev q2r.ps : List Par := [⟨.str, .rd⟩, ⟨(.int .i64), .rd⟩, ⟨t38, .rd⟩, ⟨t38, .rd⟩]
abbrev q2r.rs : List Res := [⟨t28, (.pr .ro (.pr (.pr (.own .ro) (.pr (.own .ro) (.pr .ro (.own .ro)))) .ro)), false⟩, ⟨.bool, .ro, false⟩]
def q2r.F := q4p E q2r.C [] Tryz.f15 q2r.ps q2r.rs
def q2r.f (k : Nat) (x0 : ByteArray) (x1 : Int) (x2 : Book) (x3 : Book) : Option (Release × Bool) := q2r.F k (x0, x1, x2, x3)
theorem q2r.f_eq (k : Nat) (x0 : ByteArray) (x1 : Int) (x2 : Book) (x3 : Book) : q2r.f k x0 x1 x2 x3 = (q40.f k x0).bind fun (r0 : Bool) => ifb (!r0) (some (((0 : Int), (([] : List ByteArray), ([] : List En), false, ([] : List Aff)), bz, bz), false)) ((q35.f k x1 (0 : Int) (999998 : Int)).bind fun (r1 : Bool) => ifb (!r1) (some (((0 : Int), (([] : List ByteArray), ([] : List En), false, ([] : List Aff)), bz, bz), false)) ((q2j.f k x2).bind fun (r2 : Bool) => ifb (!r2) (some (((0 : Int), (([] : List ByteArray), ([] : List En), false, ([] : List Aff)), bz, bz), false)) ((q2j.f k x3).bind fun (r3 : Bool) => ifb (!r3) (some (((0 : Int), (([] : List ByteArray), ([] : List En), false, ([] : List Aff)), bz, bz), false)) ((q0x.f k x2 x3).bind fun (r4 : Delta) => (q0w.f k x3).bind fun (r5 : ByteArray) => (q3f.f k r5).bind fun (r6 : ByteArray) => (q13.f k ((w64 (x1 + 1)), r4, r6, bz)).bind fun (r7 : ByteArray) => (q3o.f k x0 r7).bind fun (r8 : ByteArray) => (q0i.f k ((w64 (x1 + 1)), r4, r6, r8)).bind fun (r9 : Bool) => ifb (!r9) (some (((0 : Int), (([] : List ByteArray), ([] : List En), false, ([] : List Aff)), bz, bz), false)) (some (((w64 (x1 + 1)), r4, r6, r8), true)))))) := by kernel_rfl
abbrev q2r.e (k : Nat) : FuncId × CE := (15, ⟨q2r.ps, q2r.rs, q2r.F k⟩)
theorem q2r.q (k : Nat) : Qs (q2r.e k) := qq (C := q2r.C) (fun k => .c (q35.q k) <| .c (q2j.q k) <| .c (q40.q k) <| .c (q13.q k) <| .c (q0i.q k) <| .c (q3o.q k) <| .c (q0w.q k) <| .c (q3f.q k) <| .c (q0x.q k) <| .nil) k
def q19.C (k : Nat) : CEs := [q0j.e k]
abbrev q19.ps : List Par := [⟨(.row .str), .rd⟩, ⟨(.int .i64), .rd⟩]
abbrev q19.rs : List Res := [⟨(.int .i64), .ro, false⟩]
def q19.H : q4o := [(2, [(0, .ro), (1, .ro), (5, .ro)])]
def q19.F := q4p E q19.C q19.H Tryz.f111 q19.ps q19.rs
def q19.L2 (k k1 : Nat) (x0 : List ByteArray) (x1 : Int) (x5 : Int) : Option (Int) := atL E q19.C q19.H Tryz.f111 q19.ps q19.rs [true, false, true, true] k [] k1 (sh 22 [(0, .d (.row .str) x0 .ro), (1, .d (.int .i64) x1 .ro), (5, .d (.int .i64) x5 .ro)])
def q19.f (k : Nat) (x0 : List ByteArray) (x1 : Int) : Option (Int) := q19.F k (x0, x1)
theorem q19.f_eq (k : Nat) (x0 : List ByteArray) (x1 : Int) : q19.f k x0 x1 = q19.L2 k k x0 x1 (0 : Int) := by kernel_rfl
theorem q19.L2_eq (k k1 : Nat) (x0 : List ByteArray) (x1 : Int) (x5 : Int) : q19.L2 k (k1 + 1) x0 x1 x5 = ifb (decide (x5 < (x0.length : Int))) (ifb (decide (0 ≤ x5) && decide (x5 < (x0.length : Int))) ((q0j.f k1 x1).bind fun (r0 : ByteArray) => ifb (!((x0.getD x5.toNat bz).toList == r0.toList)) (some (-1 : Int)) (q19.L2 k k1 x0 (w64 (x1 + 1)) (w64 (x5 + 1)))) (none)) (some x1) := by kernel_rfl
abbrev q19.e (k : Nat) : FuncId × CE := (111, ⟨q19.ps, q19.rs, q19.F k⟩)
theorem q19.q (k : Nat) : Qs (q19.e k) := qq (C := q19.C) (fun k => .c (q0j.q k) <| .nil) k
def q3e.C (k : Nat) : CEs := [q14.e k, q15.e k, q19.e k]
abbrev q3e.ps : List Par := [⟨t26, .rd⟩, ⟨(.int .i64), .rd⟩]
abbrev q3e.rs : List Res := [⟨(.int .i64), .ro, false⟩]
def q3e.F := q4p E q3e.C [] Tryz.f61 q3e.ps q3e.rs
def q3e.f (k : Nat) (x0 : Delta) (x1 : Int) : Option (Int) := q3e.F k (x0, x1)
theorem q3e.f_eq (k : Nat) (x0 : Delta) (x1 : Int) : q3e.f k x0 x1 = (q19.f k x0.1 x1).bind fun (r0 : Int) => ifb (decide (r0 < 0)) (some (-1 : Int)) ((q15.f k x0.2.1 r0).bind fun (r1 : Int) => ifb (decide (r1 < 0)) (some (-1 : Int)) ((q14.f k x0.2.2.2 r1).bind fun (r2 : Int) => ifb (decide (r2 < 0)) (some (-1 : Int)) (some r2))) := by kernel_rfl
abbrev q3e.e (k : Nat) : FuncId × CE := (61, ⟨q3e.ps, q3e.rs, q3e.F k⟩)
theorem q3e.q (k : Nat) : Qs (q3e.e k) := qq (C := q3e.C) (fun k => .c (q14.q k) <| .c (q15.q k) <| .c (q19.q k) <| .nil) k
def q2o.C (k : Nat) : CEs := [q3e.e k]
abbrev q2o.ps : List Par := [⟨t28, .rd⟩, ⟨(.int .i64), .rd⟩]
abbrev q2o.rs : List Res := [⟨(.int .i64), .ro, false⟩]
def q2o.F := q4p E q2o.C [] Tryz.f20 q2o.ps q2o.rs
def q2o.f (k : Nat) (x0 : Release) (x1 : Int) : Option (Int) := q2o.F k (x0, x1)
theorem q2o.f_eq (k : Nat) (x0 : Release) (x1 : Int) : q2o.f k x0 x1 = (q3e.f k x0.2.1 x1).bind fun (r0 : Int) => ifb (decide (r0 < 0)) (some (-1 : Int)) (some r0) := by kernel_rfl
abbrev q2o.e (k : Nat) : FuncId × CE := (20, ⟨q2o.ps, q2o.rs, q2o.F k⟩)
theorem q2o.q (k : Nat) : Qs (q2o.e k) := qq (C := q2o.C) (fun k => .c (q3e.q k) <| .nil) k
def q02.C (k : Nat) : CEs := [q3v.e k, q2x.e k, q3p.e k, q2q.e k, q36.e k, q2e.e k, q21.e k, q2r.e k, q2o.e k]
abbrev q02.ps : List Par := [⟨.str, .rd⟩, ⟨(.int .i64), .rd⟩, ⟨t38, .rd⟩, ⟨t38, .rd⟩]
abbrev q02.rs : List Res := [⟨.bool, .ro, false⟩]
def q02.H : q4o := [(11, [(0, .ro), (1, .ro), (6, .ro), (7, .ro), (10, (.pr .ro (.pr (.pr (.own .ro) (.pr (.own .ro) (.pr .ro (.own .ro)))) .ro))), (11, .ro)]), (16, [(0, .ro), (1, .ro), (6, .ro), (7, .ro), (10, (.pr .ro (.pr (.pr (.own .ro) (.pr (.own .ro) (.pr .ro (.own .ro)))) .ro))), (11, .ro), (12, (.pr (.own .ro) (.own .ro))), (13, (.pr (.own .ro) (.own .ro))), (14, (.pr .ro (.pr (.pr (.own .ro) (.pr (.own .ro) (.pr .ro (.own .ro)))) .ro))), (15, .ro)]), (25, [(0, .ro), (1, .ro), (6, .ro), (7, .ro), (10, (.pr .ro (.pr (.pr (.own .ro) (.pr (.own .ro) (.pr .ro (.own .ro)))) .ro))), (11, .ro), (14, (.pr .ro (.pr (.pr (.own .ro) (.pr (.own .ro) (.pr .ro (.own .ro)))) .ro)))]), (34, [(10, (.pr .ro (.pr (.pr (.own .ro) (.pr (.own .ro) (.pr .ro (.own .ro)))) .ro))), (11, .ro), (14, (.pr .ro (.pr (.pr (.own .ro) (.pr (.own .ro) (.pr .ro (.own .ro)))) .ro))), (17, .ro), (19, (.pr .ro (.pr (.pr (.own .ro) (.pr (.own .ro) (.pr .ro (.own .ro)))) .ro))), (20, .ro)])]
def q02.F := q4p E q02.C q02.H Tryz.f4 q02.ps q02.rs
def q02.J11 (k : Nat) (x0 : ByteArray) (x1 : Int) (x6 : Book) (x7 : Book) (x10 : Release) (x11 : Bool) : Option (Bool) := atJ E q02.C q02.H Tryz.f4 q02.ps q02.rs [true, true, true, true, true, true, true, true] 0 [] k (sh 132 [(0, .d .str x0 .ro), (1, .d (.int .i64) x1 .ro), (6, .box t38 x6 .ro none), (7, .box t38 x7 .ro none), (10, .box t28 x10 (.pr .ro (.pr (.pr (.own .ro) (.pr (.own .ro) (.pr .ro (.own .ro)))) .ro)) none), (11, .d .bool x11 .ro)])
def q02.J16 (k : Nat) (x0 : ByteArray) (x1 : Int) (x6 : Book) (x7 : Book) (x10 : Release) (x11 : Bool) (x12 : Book) (x13 : Book) (x14 : Release) (x15 : Bool) : Option (Bool) := atJ E q02.C q02.H Tryz.f4 q02.ps q02.rs [true, true, true, true, true, true, true, true, true, true, true, true] 0 [0] k (sh 132 [(0, .d .str x0 .ro), (1, .d (.int .i64) x1 .ro), (6, .box t38 x6 .ro none), (7, .box t38 x7 .ro none), (10, .box t28 x10 (.pr .ro (.pr (.pr (.own .ro) (.pr (.own .ro) (.pr .ro (.own .ro)))) .ro)) none), (11, .d .bool x11 .ro), (12, .box t38 x12 (.pr (.own .ro) (.own .ro)) none), (13, .box t38 x13 (.pr (.own .ro) (.own .ro)) none), (14, .box t28 x14 (.pr .ro (.pr (.pr (.own .ro) (.pr (.own .ro) (.pr .ro (.own .ro)))) .ro)) none), (15, .d .bool x15 .ro)])
def q02.J25 (k : Nat) (x0 : ByteArray) (x1 : Int) (x6 : Book) (x7 : Book) (x10 : Release) (x11 : Bool) (x14 : Release) : Option (Bool) := atJ E q02.C q02.H Tryz.f4 q02.ps q02.rs [true, true, true, true, true, true, true, true, true, true, true, true, true, true, true, true, true, true] 0 [0, 0] k (sh 132 [(0, .d .str x0 .ro), (1, .d (.int .i64) x1 .ro), (6, .box t38 x6 .ro none), (7, .box t38 x7 .ro none), (10, .box t28 x10 (.pr .ro (.pr (.pr (.own .ro) (.pr (.own .ro) (.pr .ro (.own .ro)))) .ro)) none), (11, .d .bool x11 .ro), (14, .box t28 x14 (.pr .ro (.pr (.pr (.own .ro) (.pr (.own .ro) (.pr .ro (.own .ro)))) .ro)) none)])
def q02.J34 (k : Nat) (x10 : Release) (x11 : Bool) (x14 : Release) (x17 : Int) (x19 : Release) (x20 : Bool) : Option (Bool) := atJ E q02.C q02.H Tryz.f4 q02.ps q02.rs [true, true, true, true, true, true, true, true, true, true, true, true, true, true, true, true, true, true, true, true, true, true, true, true, true] 0 [0, 0, 0] k (sh 132 [(10, .box t28 x10 (.pr .ro (.pr (.pr (.own .ro) (.pr (.own .ro) (.pr .ro (.own .ro)))) .ro)) none), (11, .d .bool x11 .ro), (14, .box t28 x14 (.pr .ro (.pr (.pr (.own .ro) (.pr (.own .ro) (.pr .ro (.own .ro)))) .ro)) none), (17, .d (.int .i64) x17 .ro), (19, .box t28 x19 (.pr .ro (.pr (.pr (.own .ro) (.pr (.own .ro) (.pr .ro (.own .ro)))) .ro)) none), (20, .d .bool x20 .ro)])
def q02.f (k : Nat) (x0 : ByteArray) (x1 : Int) (x2 : Book) (x3 : Book) : Option (Bool) := q02.F k (x0, x1, x2, x3)
theorem q02.f_eq (k : Nat) (x0 : ByteArray) (x1 : Int) (x2 : Book) (x3 : Book) : q02.f k x0 x1 x2 x3 = ifb (decide ((x0.size : Int) > (1048576 : Int))) (some true) ((q3v.f k x2 (1048576 : Int)).bind fun (r0 : Int) => ifb (decide (r0 < 0)) (some true) ((q3v.f k x3 r0).bind fun (r1 : Int) => ifb (decide (r1 < 0)) (some true) ((q2x.f k x2).bind fun (r2 : Book) => (q2x.f k x3).bind fun (r3 : Book) => (q21.f k x0 x1 r2 r3).bind fun (r4 : Release × Bool) => q02.J11 k x0 x1 x2 x3 r4.1 r4.2))) := by kernel_rfl
theorem q02.J11_eq (k : Nat) (x0 : ByteArray) (x1 : Int) (x6 : Book) (x7 : Book) (x10 : Release) (x11 : Bool) : q02.J11 (k + 1) x0 x1 x6 x7 x10 x11 = (q2x.f k x6).bind fun (r5 : Book) => (q2x.f k x7).bind fun (r6 : Book) => (q2r.f k x0 x1 r5 r6).bind fun (r7 : Release × Bool) => (q2q.f k r7.1 x10).bind fun (r8 : Bool) => ifb (!r8) (some false) (ifb (!(r7.2 == x11)) (some false) (q02.J16 k x0 x1 x6 x7 x10 x11 r5 r6 r7.1 r7.2)) := by kernel_rfl
theorem q02.J16_eq (k : Nat) (x0 : ByteArray) (x1 : Int) (x6 : Book) (x7 : Book) (x10 : Release) (x11 : Bool) (x12 : Book) (x13 : Book) (x14 : Release) (x15 : Bool) : q02.J16 (k + 1) x0 x1 x6 x7 x10 x11 x12 x13 x14 x15 = (q2x.f k x6).bind fun (r9 : Book) => (q3p.f k x12 r9).bind fun (r10 : Bool) => ifb (!r10) (some false) ((q2x.f k x7).bind fun (r11 : Book) => (q3p.f k x13 r11).bind fun (r12 : Bool) => ifb (!r12) (some false) ((q36.f k x12 (1 : Int)).bind fun (r13 : Int × Book) => (q36.f k x13 r13.1).bind fun (r14 : Int × Book) => ifb (decide (r14.1 < 0)) (some false) ((q2q.f k x14 x10).bind fun (r15 : Bool) => ifb (!r15) (some false) (ifb (!(x15 == x11)) (some false) (q02.J25 k x0 x1 x6 x7 x10 x11 x14))))) := by kernel_rfl
theorem q02.J25_eq (k : Nat) (x0 : ByteArray) (x1 : Int) (x6 : Book) (x7 : Book) (x10 : Release) (x11 : Bool) (x14 : Release) : q02.J25 (k + 1) x0 x1 x6 x7 x10 x11 x14 = (q2e.f k x14 (1 : Int)).bind fun (r16 : Int × Release) => (q2o.f k r16.2 (1 : Int)).bind fun (r17 : Int) => ifb (decide (r17 < 0)) (some false) (ifb (r17 != r16.1) (some false) ((q2x.f k x6).bind fun (r18 : Book) => (q2x.f k x7).bind fun (r19 : Book) => (q2r.f k x0 x1 r18 r19).bind fun (r20 : Release × Bool) => q02.J34 k x10 x11 r16.2 r16.1 r20.1 r20.2)) := by kernel_rfl
theorem q02.J34_eq (k : Nat) (x10 : Release) (x11 : Bool) (x14 : Release) (x17 : Int) (x19 : Release) (x20 : Bool) : q02.J34 (k + 1) x10 x11 x14 x17 x19 x20 = (q2q.f k x19 x10).bind fun (r21 : Bool) => ifb (!r21) (some false) (ifb (!(x20 == x11)) (some false) ((q2o.f k x14 (1 : Int)).bind fun (r22 : Int) => ifb (decide (r22 < 0)) (some false) (ifb (r22 != x17) (some false) (some true)))) := by kernel_rfl
abbrev q02.e (k : Nat) : FuncId × CE := (4, ⟨q02.ps, q02.rs, q02.F k⟩)
theorem q02.q (k : Nat) : Qs (q02.e k) := qq (C := q02.C) (fun k => .c (q3v.q k) <| .c (q2x.q k) <| .c (q3p.q k) <| .c (q2q.q k) <| .c (q36.q k) <| .c (q2e.q k) <| .c (q21.q k) <| .c (q2r.q k) <| .c (q2o.q k) <| .nil) k
end
end Go.Proofs.YtnjdoinlnbjedaaGreatDoor.Rf
end

section
namespace Go.Proofs.YtnjdoinlnbjedaaGreatDoor.Rf
open Go Go.RowKit
set_option linter.unusedVariables false
set_option linter.unusedSimpArgs false
theorem q9i (l : List En) (e : En) (hS : Sm l.length) : Al fun k => q0c.f k l e = some (l.any fun x => decide (x = e)) := by
  have key : ∀ (t : List En) (i : Nat), l.drop i = t → Al2 fun k k1 => ∃ r, q06.L2 k k1 l e (l.length : Int) (i : Int) = some r ∧ decide (r ≥ 0) = t.any fun x => decide (x = e) := by
    intro t
    induction t with
    | nil =>
      intro i hd
      refine Al2.succ (Al2.now fun k k1 => ⟨-1, ?_, rfl⟩)
      simp only [q06.L2_eq, at_end (drop_nil hd), q0d]
    | cons x t ih =>
      intro i hd
      obtain ⟨hi, g1, g2⟩ := q3t zE hd
      obtain ⟨c1, c2, c3, c4⟩ := q66 hi hS
      refine Al2.succ ((ih (i + 1) g2).mono fun k k1 ⟨r, e1, e2⟩ => ?_)
      simp only [q06.L2_eq, c1, c2, c3, w64, c4, g1, Bool.and_self, q08, qn0, e1]
      by_cases hx : x = e
      · refine ⟨i, ?_, ?_⟩
        · rw [decide_eq_true hx.symm, q08]
        · rw [List.any_cons, decide_eq_true hx]; exact c2
      · refine ⟨r, ?_, ?_⟩
        · rw [decide_eq_false (fun h => hx h.symm), q0d]
        · rw [List.any_cons, decide_eq_false hx]; exact e2
  refine (key l 0 rfl).diag.mono fun k ⟨r, e1, e2⟩ => ?_
  rw [show ((0 : Nat) : Int) = 0 from rfl] at e1
  rw [q0c.f_eq, q06.f_eq, e1, Option.bind_some, e2]
theorem qi8 (l m : List Aff) (hl : Sm l.length) : Al fun k => q04.f k l m = some (decide (l = m)) := by
  by_cases hlen : l.length = m.length
  case neg =>
    refine Al.now fun k => ?_
    rw [q04.f_eq, show ((l.length : Int) != (m.length : Int)) = true by rw [bne_iff_ne]; omega, q08, decide_eq_false fun e => hlen (by rw [e])]
  have key : ∀ (t : List Aff) (i : Nat), l.drop i = t → Al2 fun k k1 => q04.L4 k k1 l m (l.length : Int) (i : Int) = some (decide (t = m.drop i)) := by
    intro t
    induction t with
    | nil =>
      intro i hd
      have he := drop_nil hd
      refine Al2.succ (Al2.now fun k k1 => ?_)
      rw [q04.L4_eq, at_end he, q0d, List.drop_eq_nil_of_le (show m.length ≤ i by omega), decide_eq_true rfl]
    | cons x t ih =>
      intro i hd
      obtain ⟨hi, g1, g2⟩ := q3t zA hd
      obtain ⟨c1, c2, c3, c4⟩ := q66 hi hl
      have hm : i < m.length := by omega
      have hmd : m.drop i = m[i] :: m.drop (i + 1) := List.drop_eq_getElem_cons hm
      have gm : m.getD i zA = m[i] := by rw [List.getD_eq_getElem?_getD, List.getElem?_eq_getElem hm]; rfl
      have cm : decide ((i : Int) < (m.length : Int)) = true := decide_eq_true (by omega)
      refine Al2.succ ((ih (i + 1) g2).mono fun k k1 e => ?_)
      simp only [q04.L4_eq, c1, c2, c3, w64, c4, g1, cm, gm, Bool.and_self, q08, e, qdq, hmd]
      by_cases h : x = m[i]
      · rw [decide_eq_true h, Bool.not_true, q0d]
        exact congrArg some (decide_eq_decide.2 ⟨fun e => by rw [h, e], fun e => (List.cons.inj e).2⟩)
      · rw [decide_eq_false h, Bool.not_false, q08]
        exact congrArg some (decide_eq_false fun e => h (List.cons.inj e).1).symm
  refine (key l 0 rfl).diag.mono fun k e => ?_
  rw [q04.f_eq, show ((l.length : Int) != (m.length : Int)) = false by rw [hlen]; simp, q0d, show (0 : Int) = ((0 : Nat) : Int) from rfl, e]
  rfl
theorem qee (a b : Book) (ha : smB a) (hb : smB b) : Al fun k => q0x.f k a b = some (q53 a b) := by
  have e0 := (q50 a ha).and (q50 b hb)
  cases h1 : q4w a with
  | false => exact e0.mono fun k ⟨e1, e2⟩ => by simp only [q0x.f_eq, e1, h1, Option.bind_some, Bool.not_false, q08, q53, Bool.false_and, Bool.false_eq_true, if_false]
  | true =>
  cases h2 : q4w b with
  | false => exact e0.mono fun k ⟨e1, e2⟩ => by simp only [q0x.f_eq, e1, e2, h1, h2, Option.bind_some, Bool.not_false, Bool.not_true, q08, q0d, q53, Bool.true_and, Bool.false_eq_true, if_false]
  | true =>
  obtain ⟨n1, n2⟩ := q88 h1
  obtain ⟨n3, n4⟩ := q88 h2
  have sA : Sm a.2.length := by unfold Sm; omega
  have sB : Sm b.2.length := by unfold Sm; omega
  have sF : Sm a.1.length := by unfold Sm; omega
  have aA := q8n h1
  have aB := q8n h2
  have two : ∀ (t : List En) (i : Nat) (g : List ByteArray) (c : List En), b.2.drop i = t → c ++ (t.filter fun e => qpe a.2 e) = q74 a b → c.length ≤ i →
      Al2 fun k k1 => q0x.L11 k k1 a b ([], [], false, []) (g, c, false, []) b.2 (b.2.length : Int) (i : Int) = some (g, q74 a b, !decide (a.1 = b.1), if a.1 = b.1 then [] else b.1) := by
    intro t
    induction t with
    | nil =>
      intro i g c hd hc hl
      refine Al2.succ ((qi8 a.1 b.1 sF).fst.mono fun k k1 e => ?_)
      rw [List.filter_nil, List.append_nil] at hc
      subst hc
      have m1 : decide ((([] : List Aff).length + b.1.length) * 72 ≤ q0u) = true := decide_eq_true (by simp [q0u]; omega)
      simp only [q0x.L11_eq, at_end (drop_nil hd), q0d, e, Option.bind_some, m1, q08, List.nil_append]
      by_cases h : a.1 = b.1 <;> simp [h, q08, q0d]
    | cons x t ih =>
      intro i g c hd hc hl
      obtain ⟨hi, g1, g2⟩ := q3t zE hd
      obtain ⟨c1, c2, c3, c4⟩ := q66 hi sB
      have m1 : decide ((c.length + [x].length) * 32 ≤ q0u) = true := decide_eq_true (by simp [q0u]; omega)
      have hne := qk9 aA x
      cases hn : (a.2.any fun y => decide (y = x)) with
      | false =>
        rw [hn] at hne
        rw [List.filter_cons_of_pos (by simpa using hne)] at hc
        refine Al2.succ (((q9i a.2 x sA).snd.and (ih (i + 1) g (c ++ [x]) g2 (by simpa using hc) (by simp; omega))).mono fun k k1 ⟨e1, e2⟩ => ?_)
        simp only [q0x.L11_eq, c1, c2, c3, w64, c4, g1, Bool.and_self, q08, e1, hn, Option.bind_some, Bool.not_false, m1, e2]
      | true =>
        rw [hn] at hne
        rw [List.filter_cons_of_neg (by simpa using hne)] at hc
        refine Al2.succ (((q9i a.2 x sA).snd.and (ih (i + 1) g c g2 hc (by omega))).mono fun k k1 ⟨e1, e2⟩ => ?_)
        simp only [q0x.L11_eq, c1, c2, c3, w64, c4, g1, Bool.and_self, q08, e1, hn, Option.bind_some, Bool.not_true, q0d, e2]
  have one : ∀ (t : List En) (i : Nat) (g : List ByteArray), a.2.drop i = t → g ++ ((t.filter fun e => !q6x b.2 e.1).map fun e => e.1) = q7n a b → g.length ≤ i →
      Al2 fun k k1 => q0x.L5 k k1 a b ([], [], false, []) (g, [], false, []) a.2 (a.2.length : Int) (i : Int) = some (q7n a b, q74 a b, !decide (a.1 = b.1), if a.1 = b.1 then [] else b.1) := by
    intro t
    induction t with
    | nil =>
      intro i g hd hg hl
      refine Al2.succ ((two b.2 0 g [] rfl (by simp [q74]) (by simp)).diag.fst.mono fun k k1 e => ?_)
      simp only [List.filter_nil, List.map_nil, List.append_nil] at hg
      subst hg
      simp only [q0x.L5_eq, at_end (drop_nil hd), q0d]
      exact e
    | cons x t ih =>
      intro i g hd hg hl
      obtain ⟨hi, g1, g2⟩ := q3t zE hd
      obtain ⟨c1, c2, c3, c4⟩ := q66 hi sA
      have m1 : decide ((g.length + [x.1].length) * 16 ≤ q0u) = true := decide_eq_true (by simp [q0u]; omega)
      cases ht : q6x b.2 x.1 with
      | false =>
        have hh : q94 b.2 x.1 = false := by rw [← q87 aB]; exact ht
        rw [List.filter_cons_of_pos (by simp [ht])] at hg
        refine Al2.succ ((ih (i + 1) (g ++ [x.1]) g2 (by simpa using hg) (by simp; omega)).mono fun k k1 e2 => ?_)
        simp only [q0x.L5_eq, c1, c2, c3, w64, c4, g1, Bool.and_self, q08, q78 _ _ _ sB, qb1, hh, Option.bind_some, Bool.not_false, m1, e2]
      | true =>
        have hh : q94 b.2 x.1 = true := by rw [← q87 aB]; exact ht
        rw [List.filter_cons_of_neg (by simp [ht])] at hg
        refine Al2.succ ((ih (i + 1) g g2 hg (by omega)).mono fun k k1 e2 => ?_)
        simp only [q0x.L5_eq, c1, c2, c3, w64, c4, g1, Bool.and_self, q08, q78 _ _ _ sB, qb1, hh, Option.bind_some, Bool.not_true, q0d, e2]
  refine (e0.and (one a.2 0 [] rfl (by simp [q7n]) (by simp)).diag).mono fun k ⟨⟨e1, e2⟩, e3⟩ => ?_
  simp only [q0x.f_eq, e1, e2, h1, h2, Option.bind_some, Bool.not_true, q0d, q53, Bool.and_self, if_true]
  exact e3
end Go.Proofs.YtnjdoinlnbjedaaGreatDoor.Rf
end

section
namespace Go.Proofs.YtnjdoinlnbjedaaGreatDoor.Rf
open Go Go.RowKit
set_option linter.unusedVariables false
set_option linter.unusedSimpArgs false
theorem qbv (key : ByteArray) (n : Int) (a b : Book) (hk : key.size ≤ 9223372036854775807) (ha : smB a) (hb : smB b) : Al fun k => q2r.f k key n a b = some (q6d key n a b) := by
  have e1 := fun k => qcw k key hk
  have e2 := fun k => q6c k n 0 999998
  unfold q6d
  cases h1 : qj3 key with
  | false => exact Al.now fun k => by rw [q2r.f_eq, e1, h1, Option.bind_some, Bool.not_false, q08]; rfl
  | true =>
  cases h2 : (decide (0 ≤ n) && decide (n ≤ 999998)) with
  | false => exact Al.now fun k => by rw [q2r.f_eq, e1, h1, Option.bind_some, Bool.not_true, q0d, e2, h2, Option.bind_some, Bool.not_false, q08]; rfl
  | true =>
  have h2' := h2
  simp only [Bool.and_eq_true, decide_eq_true_eq] at h2'
  have fa := q50 a ha
  cases h3 : q4w a with
  | false => exact fa.mono fun k e => by rw [q2r.f_eq, e1, h1, Option.bind_some, Bool.not_true, q0d, e2, h2, Option.bind_some, Bool.not_true, q0d, e, h3, Option.bind_some, Bool.not_false, q08]; rfl
  | true =>
  have fb := q50 b hb
  cases h4 : q4w b with
  | false => exact (fa.and fb).mono fun k ⟨e, e3⟩ => by rw [q2r.f_eq, e1, h1, Option.bind_some, Bool.not_true, q0d, e2, h2, Option.bind_some, Bool.not_true, q0d, e, h3, Option.bind_some, Bool.not_true, q0d, e3, h4, Option.bind_some, Bool.not_false, q08]; rfl
  | true =>
  have hz := q89 (qhk h4)
  have hs := q6o (q6n b)
  have hD := qb5 h3 h4
  have zt := qhv (n := n + 1) (d := q53 a b) (s := q6e (q6n b)) (by omega) (by omega) hD (by omega)
  have ft := q7m (n + 1, q53 a b, q6e (q6n b), bz) (by show 0 ≤ n + 1; omega) (by show n + 1 ≤ 999999; omega) hD (by show (q6e _).size ≤ _; omega)
  refine (((fa.and fb).and ((qee a b ha hb).and (q7d b hb))).and (((qam (q6n b) (by omega)).and ft).and ((qan key (qci (n + 1) (q53 a b) (q6e (q6n b))) hk (by omega)).and (q6y (qng key n a b) (qnh h3 h4))))).mono fun k ⟨⟨⟨e3, e4⟩, e5, e6⟩, ⟨e7, e8⟩, e9, e10⟩ => ?_
  rw [qrf, h4, if_pos rfl] at e6
  rw [q2r.f_eq, e1, h1, Option.bind_some, Bool.not_true, q0d, e2, h2, Option.bind_some, Bool.not_true, q0d, e3, h3, Option.bind_some, Bool.not_true, q0d, e4, h4, Option.bind_some, Bool.not_true, q0d, e5, Option.bind_some, e6, Option.bind_some, e7, Option.bind_some, qq6 h2'.1 h2'.2, e8, Option.bind_some, e9, Option.bind_some]
  rw [qng] at e10
  rw [e10, Option.bind_some]
  show ifb (!qhj (qng key n a b)) _ _ = _
  simp only [Bool.and_self, if_true]
  cases h5 : qhj (qng key n a b) with
  | false => rw [Bool.not_false, q08]; rfl
  | true => rw [Bool.not_true, q0d]; rfl
end Go.Proofs.YtnjdoinlnbjedaaGreatDoor.Rf
end

section
namespace Go.Proofs.YtnjdoinlnbjedaaGreatDoor.Rf
open Go Go.RowKit
set_option linter.unusedVariables false
set_option linter.unusedSimpArgs false
theorem qf9 : ∀ (n m : Nat), (mkS n m).length = n
  | 0, _ => rfl
  | n + 1, m => by rw [mkS, List.length_cons, qf9]
theorem qa6 : ∀ (n : Nat) (a : List ByteArray) (m : Nat), a.length + n ≤ 1099511627776 → m + n ≤ 1099511627776 → Al2 fun k k1 => q19.L2 k k1 (a ++ mkS n m) (m : Int) (a.length : Int) = some ((m + n : Nat) : Int)
  | 0, a, m, h1, h2 => Al2.succ (Al2.now fun k k1 => by
    simp only [q19.L2_eq, mkS, List.append_nil, at_end (Nat.lt_irrefl _), q0d, Nat.add_zero])
  | n + 1, a, m, h1, h2 => by
    have hi : a.length < (a ++ mkS (n + 1) m).length := by simp [mkS]
    obtain ⟨c1, c2, c3, c4⟩ := q66 hi (by simp only [List.length_append, qf9]; omega)
    have ih := qa6 n (a ++ [mT m]) (m + 1) (by rw [List.length_append]; simp; omega) (by omega)
    refine Al2.succ (((q4t m (by omega)).snd.and ih).mono fun k k1 ⟨e1, e3⟩ => ?_)
    simp only [q19.L2_eq, c1, c2, c3, Bool.and_self, q08, e1, Option.bind_some, q75 m (by omega)]
    simp only [mkS, q8q, beq_self_eq_true, Bool.not_true, q0d]
    simp only [w64, c4]
    rw [show a ++ mT m :: mkS n (m + 1) = a ++ [mT m] ++ mkS n (m + 1) by simp, show ((a.length + 1 : Nat) : Int) = ((a ++ [mT m]).length : Int) by simp, e3]
    rw [show m + 1 + n = m + (n + 1) by omega]
theorem qi9 (d : Delta) (m : Nat) (h1 : d.1.length ≤ 1000000000) (h2 : d.2.1.length ≤ 1000000000) (h3 : d.2.2.2.length ≤ 1000000000) (hm : m ≤ 100000000000) : Al fun k => q3e.f k (qs7 d m) (m : Int) = some ((m + d.1.length + 2 * d.2.1.length + 5 * d.2.2.2.length : Nat) : Int) :=
  (((qa6 d.1.length [] m (by simp; omega) (by omega)).diag.and (q8v d.2.1.length [] (m + d.1.length) (by simp; omega) (by omega)).diag).and (q8w d.2.2.2.length [] (m + d.1.length + 2 * d.2.1.length) (by simp; omega) (by omega)).diag).mono fun k ⟨⟨e0, e1⟩, e2⟩ => by
    simp only [List.nil_append, List.length_nil] at e0 e1 e2
    simp only [q3e.f_eq, q14.f_eq, q15.f_eq, q19.f_eq, qs7]
    rw [show (0 : Int) = ((0 : Nat) : Int) from rfl, e0, Option.bind_some, decide_eq_false (by omega), q0d, e1, Option.bind_some, decide_eq_false (by omega), q0d, e2, Option.bind_some, decide_eq_false (by omega), q0d]
end Go.Proofs.YtnjdoinlnbjedaaGreatDoor.Rf
end

section
namespace Go.Proofs.YtnjdoinlnbjedaaGreatDoor.Rf
open Go Go.RowKit
set_option linter.unusedVariables false
set_option linter.unusedSimpArgs false
theorem qsh {d : Delta} (h : q5c d = true) : lnD d := by have := qbo h; unfold lnD; omega
theorem qen (r : Release) (m : Nat) (h : lnD r.2.1) (hm : m ≤ 100000000000) : Al fun k => q2o.f k (qtb r m) (m : Int) = some ((m + nD r.2.1 : Nat) : Int) := by
  unfold lnD at h
  refine (qi9 r.2.1 m (by omega) (by omega) (by omega) hm).mono fun k e => ?_
  rw [q2o.f_eq]
  show (q3e.f k (qs7 r.2.1 m) (m : Int)).bind _ = _
  rw [e, Option.bind_some, decide_eq_false (by omega), q0d]
  simp only [nD, ← Nat.add_assoc]
end Go.Proofs.YtnjdoinlnbjedaaGreatDoor.Rf
end

section
/- The law FnExactReleaseOf is true. -/
namespace Go.Proofs.YtnjdoinlnbjedaaGreatDoor.Rf
open Go Go.RowKit
set_option linter.unusedVariables false
set_option linter.unusedSimpArgs false
theorem qnv (key : ByteArray) (n : Int) (a b : Book) : lnD (q6d key n a b).1.2.1 := by
  unfold q6d
  split
  · rename_i h
    simp only [Bool.and_eq_true] at h
    split
    · exact qsh (qb5 h.2.2.1 h.2.2.2)
    · simp [lnD, zR]
  · simp [lnD, zR]
theorem q9j (key : ByteArray) (n : Int) (a b : Book) (hk : q73 .str key) (hn : q73 (.int .i64) n) (ha : q73 qta a) (hb : q73 qta b) : ∃ k, q02.f k key n a b = some true := by
  by_cases hk1 : key.size ≤ 1048576
  case neg => exact ⟨0, by rw [q02.f_eq, decide_eq_true (by omega), q08]⟩
  have hK : decide ((key.size : Int) > 1048576) = false := decide_eq_false (by omega)
  have s1 := qe8 a 1048576 (by omega) (by omega) (qnj ha)
  by_cases h1 : qgb a ≤ 1048576
  case neg =>
    exact (s1.mono fun k e => by
      rw [q02.f_eq, hK, q0d, e, Option.bind_some, q4v _ _ (by omega), decide_eq_true (by omega), q08]).get
  have e1 : q7o 1048576 (qgb a) = 1048576 - qgb a := if_pos (by omega)
  have s2 := qe8 b (1048576 - qgb a) (by omega) (by omega) (qnj hb)
  by_cases h2 : qgb a + qgb b ≤ 1048576
  case neg =>
    exact ((s1.and s2).mono fun k ⟨e, e2⟩ => by
      rw [q02.f_eq, hK, q0d, e, Option.bind_some, q4v _ _ (by omega), decide_eq_false (by omega), q0d, e1, e2, Option.bind_some, q4v _ _ (by omega), decide_eq_true (by omega), q08]).get
  have ma := qni (b := a) (by omega)
  have mb := qni (b := b) (by omega)
  have la := qnk (b := a) (by omega)
  have lb := qnk (b := b) (by omega)
  have lr := qnv key n a b
  have hI := qbv key n a b (by omega) ma mb
  have hS := q6q key n a b (by omega) ma mb
  have hE := qa4 (q6d key n a b).1 lr
  have hM := qa5 (q6d key n a b).1 1 lr (by omega)
  have hH := qen (q6d key n a b).1 1 lr (by omega)
  have tA := qeb a ma
  have tB := qeb b mb
  have j34 : Al fun k => q02.J34 k (q6d key n a b).1 (q6d key n a b).2 (qtb (q6d key n a b).1 1) ((1 + nD (q6d key n a b).1.2.1 : Nat) : Int) (q6d key n a b).1 (q6d key n a b).2 = some true :=
    Al.succ ((hE.and hH).mono fun k ⟨e, e2⟩ => by
      rw [show ((1 : Nat) : Int) = 1 from rfl] at e2
      rw [q02.J34_eq, e, Option.bind_some, Bool.not_true, q0d, beq_self_eq_true, Bool.not_true, q0d, e2, Option.bind_some, decide_eq_false (by omega), q0d, bne_self_eq_false, q0d])
  have j25 : Al fun k => q02.J25 k key n a b (q6d key n a b).1 (q6d key n a b).2 (q6d key n a b).1 = some true :=
    Al.succ ((((hM.and hH).and (tA.and tB)).and (hI.and j34)).mono fun k ⟨⟨⟨e, e2⟩, e3, e4⟩, e5, e6⟩ => by
      rw [show ((1 : Nat) : Int) = 1 from rfl] at e e2
      rw [q02.J25_eq, e, Option.bind_some]
      dsimp only
      rw [e2, Option.bind_some, decide_eq_false (by omega), q0d, bne_self_eq_false, q0d, e3, Option.bind_some, e4, Option.bind_some, e5, Option.bind_some, e6])
  have j16 : Al fun k => q02.J16 k key n a b (q6d key n a b).1 (q6d key n a b).2 a b (q6d key n a b).1 (q6d key n a b).2 = some true :=
    Al.succ (((((tA.and tB).and ((q8r a (by unfold Sm; omega) (by unfold Sm; omega)).and (q8r b (by unfold Sm; omega) (by unfold Sm; omega)))).and
      ((q8u a 1 (by omega) (by omega) (by omega)).and (q8u b (1 + 5 * a.1.length + 2 * a.2.length) (by omega) (by omega) (by omega)))).and (hE.and j25)).mono fun k ⟨⟨⟨⟨e3, e4⟩, e5, e6⟩, e7, e8⟩, e9, e10⟩ => by
      rw [show ((1 : Nat) : Int) = 1 from rfl] at e7
      rw [q02.J16_eq, e3, Option.bind_some, e5, Option.bind_some, Bool.not_true, q0d, e4, Option.bind_some, e6, Option.bind_some, Bool.not_true, q0d, e7, Option.bind_some]
      dsimp only
      rw [e8, Option.bind_some, decide_eq_false (by omega), q0d, e9, Option.bind_some, Bool.not_true, q0d, beq_self_eq_true, Bool.not_true, q0d, e10])
  have j11 : Al fun k => q02.J11 k key n a b (q6d key n a b).1 (q6d key n a b).2 = some true :=
    Al.succ ((((tA.and tB).and hI).and (hE.and j16)).mono fun k ⟨⟨⟨e3, e4⟩, e5⟩, e9, e10⟩ => by
      rw [q02.J11_eq, e3, Option.bind_some, e4, Option.bind_some, e5, Option.bind_some, e9, Option.bind_some, Bool.not_true, q0d, beq_self_eq_true, Bool.not_true, q0d, e10])
  refine ((((s1.and s2).and (tA.and tB)).and (hS.and j11)).mono fun k ⟨⟨⟨z1, z2⟩, e3, e4⟩, e5, e6⟩ => ?_).get
  rw [q02.f_eq, hK, q0d, z1, Option.bind_some, q4v _ _ (by omega), decide_eq_false (by omega), q0d, e1, z2, Option.bind_some, q4v _ _ (by omega), decide_eq_false (by omega), q0d, e3, Option.bind_some, e4, Option.bind_some, e5, Option.bind_some, e6]
end Go.Proofs.YtnjdoinlnbjedaaGreatDoor.Rf
end

section
/- 'FnExactReleaseOf': for every input it returns true and its arguments read as before. Conditions: those of the given row alone (the listed package variables as the program's text lays them). -/
namespace Go.Proofs.YtnjdoinlnbjedaaGreatDoor.fnExactReleaseOf
open Go.ChangeShapes Go.WideShapes Go.ChangeAt Go.RowKit
open Go.Proofs.YtnjdoinlnbjedaaGreatDoor.Rf Go.Proofs.YtnjdoinlnbjedaaGreatDoor.Frame
set_option linter.unusedVariables false
theorem own : ownKnob Tryz.prog.godebug = none := by kernel_rfl
theorem laidOut : laidOutB Tryz.prog = true := by kernel_rfl
theorem qed : ∀ n ∈ (["loop.example/medlar/impl.shaStep"] : List String), ∀ g t, Tryz.prog.globalNamed n = some g → (Tryz.prog.globals[g]?).map (·.type) = some t → Tryz.prog.readableRec t = true ∧ t < Tryz.prog.types.size := by
  intro n hn g t hg ht
  simp only [List.mem_cons, List.not_mem_nil, or_false] at hn
  subst hn
  · obtain rfl := Option.some.inj ((show Tryz.prog.globalNamed "loop.example/medlar/impl.shaStep" = some 0 by kernel_rfl).symm.trans hg)
    obtain rfl := Option.some.inj ((show (Tryz.prog.globals[0]?).map (·.type) = some 138 by kernel_rfl).symm.trans ht)
    exact ⟨by kernel_rfl, of_decide_eq_true (by kernel_rfl)⟩
set_option maxRecDepth 100000 in
theorem contract (H : Type) (enc : TypeId × Value → H) (W : World) (base : Nat) (args : Array Value) (ds gs : List (DataW H)) (before : List MemPlace)
    (hval0 : ∀ (j : Nat) t v, Tryz.f4.params[j]? = some t → args[j]? = some v → Value.okWide Tryz.prog W .any base t v)
    (hW : DataW.Whole enc Tryz.prog Tryz.f4.params.toList Rows.fnExactReleaseOfSpec.vars false W args.toList ds gs before)
    (hsz0 : (DataW.weightsEach Tryz.prog (Tryz.f4.params.toList ++ (OpenSpec.ofChange Rows.fnExactReleaseOfSpec).bare.plain.varTypes Tryz.prog) (ds ++ gs)).all (· ≤ reachBytes) = true)
    (hL : laidMetH Tryz.prog Rows.fnExactReleaseOfRow.laid W) (hsh : W.ShapedOpen Tryz.prog) :
    Calls Tryz.prog 4 args W fun e W' => ∃ v, e = .returned v ∧ Rows.fnExactReleaseOfSpec.post enc Tryz.prog Tryz.f4 false true false false W args v W' := by
  have hGm : ∃ x : Int, W.cell? ⟨2, 0, none⟩ = some (.int .i64 x) := Go.Proofs.cell_of_shapedOpen_int (zero := #[.int .i64 0]) (t := 3) hsh (of_decide_eq_true (by kernel_rfl)) (by kernel_rfl) rfl (by kernel_rfl) (by kernel_rfl) Tryz.underlying3
  have hGp : Lib.TabIs Tryz.prog W "internal/strconv.uint64pow10" .u64 Lib.pow10Tab := q5d (show Tryz.prog.globalNamed "internal/strconv.uint64pow10" = some 1 by kernel_rfl) (show (Tryz.prog.globals[1]?).map (·.type) = some 198 by kernel_rfl) Tryz.underlying198 Tryz.underlying137 (by kernel_rfl) (by kernel_rfl) hL (by rw [show Lib.tabData .u64 Lib.pow10Tab = Rows.laid_internal_strconv_uint64pow10 from by kernel_rfl]; simp [Rows.fnExactReleaseOfRow])
  have hGs : Lib.TabIs Tryz.prog W "loop.example/medlar/impl.shaStep" .u32 q6i := q5d (show Tryz.prog.globalNamed "loop.example/medlar/impl.shaStep" = some 0 by kernel_rfl) (show (Tryz.prog.globals[0]?).map (·.type) = some 138 by kernel_rfl) Tryz.underlying138 Tryz.underlying135 (by kernel_rfl) (by kernel_rfl) hL (by rw [show Lib.tabData .u32 q6i = Rows.laid_loop_example_medlar_impl_shaStep from by kernel_rfl]; simp [Rows.fnExactReleaseOfRow])
  have hJ : Jp.J W := ⟨hGm, hGp, hGs⟩
  clear hsh hL
  have hsz := hsz0
  have hval := hval0
  have hW' := hW
  obtain ⟨p, q, hA0, hV, rfl, hfz, hnd⟩ := hW
  have hA : DataW.TrodAll enc Tryz.prog W 0 (fun _ => true) true Tryz.f4.params.toList args.toList ds p := hA0
  rw [Tryz.params4] at hA hval
  obtain ⟨v0, vs0, d0, ds0, p0, q0, hargs, rfl, rfl, h0, r0⟩ := trodAll_cons hA
  obtain ⟨v1, vs1, d1, ds1, p1, q1, rfl, rfl, rfl, h1, r1⟩ := trodAll_cons r0
  obtain ⟨v2, vs2, d2, ds2, p2, q2, rfl, rfl, rfl, h2, r2⟩ := trodAll_cons r1
  obtain ⟨v3, vs3, d3, ds3, p3, q3, rfl, rfl, rfl, h3, r3⟩ := trodAll_cons r2
  obtain ⟨rfl, rfl, rfl⟩ := trodAll_nil r3
  obtain rfl : args = #[v0, v1, v2, v3] := by cases args; simp_all
  have lt0 : ∀ x ∈ p0, x.block < W.heap.size := by obtain ⟨m, hm⟩ := h0; exact DataW.trod_lt m _ _ _ hm
  obtain ⟨x0, o0, G0⟩ := q6t (τ := .str) (show q57 Tryz.prog .str (.inl 9) = true by kernel_rfl) (hval 0 9 v0 rfl rfl) h0
  have lt1 : ∀ x ∈ p1, x.block < W.heap.size := by obtain ⟨m, hm⟩ := h1; exact DataW.trod_lt m _ _ _ hm
  obtain ⟨x1, o1, G1⟩ := q6t (τ := (.int .i64)) (show q57 Tryz.prog (.int .i64) (.inl 3) = true by kernel_rfl) (hval 1 3 v1 rfl rfl) h1
  have lt2 : ∀ x ∈ p2, x.block < W.heap.size := by obtain ⟨m, hm⟩ := h2; exact DataW.trod_lt m _ _ _ hm
  obtain ⟨x2, o2, G2⟩ := q6t (τ := t38) (show q57 Tryz.prog t38 (.inl 39) = true by kernel_rfl) (hval 2 39 v2 rfl rfl) h2
  have lt3 : ∀ x ∈ p3, x.block < W.heap.size := by obtain ⟨m, hm⟩ := h3; exact DataW.trod_lt m _ _ _ hm
  obtain ⟨x3, o3, G3⟩ := q6t (τ := t38) (show q57 Tryz.prog t38 (.inl 39) = true by kernel_rfl) (hval 3 39 v3 rfl rfl) h3
  obtain ⟨gv0, gw0, qv0, rfl, hv0⟩ := q6u hV
  obtain ⟨rfl, _⟩ := trodVars_none hv0
  clear hA0 hval0 hsz0
  obtain ⟨k, hk⟩ := q9j x0 x1 x2 x3 G0 G1 G2 G3
  refine (row_of (q02.q k).1 rfl (x := (x0, x1, x2, x3)) (r := true) hk rfl (qsq hJ) hJ rfl ?_).mono fun e W' ⟨he, bel⟩ => ?_
  · intro i p s hp hs
    match i, hp, hs with
    | 0, _, hs => obtain rfl := Option.some.inj (show some (⟨.str, x0⟩ : Sv) = some s from hs); exact o0
    | 1, _, hs => obtain rfl := Option.some.inj (show some (⟨(.int .i64), x1⟩ : Sv) = some s from hs); exact o1
    | 2, _, hs => obtain rfl := Option.some.inj (show some (⟨t38, x2⟩ : Sv) = some s from hs); exact o2
    | 3, _, hs => obtain rfl := Option.some.inj (show some (⟨t38, x3⟩ : Sv) = some s from hs); exact o3
    | i + 4, hp, _ => simp at hp
  subst he
  obtain ⟨pv, hpv⟩ := q60 laidOut bel _ _ _ hV qed
  exact ⟨_, rfl, _, _, _, [], _, pv, hW', trodAll_mk1 (shut_bool Tryz.underlying4 _), (trodAll_cons_mk (Below.trod laidOut (by kernel_rfl) (of_decide_eq_true (by kernel_rfl)) h0 bel lt0) (trodAll_cons_mk (Below.trod laidOut (by kernel_rfl) (of_decide_eq_true (by kernel_rfl)) h1 bel lt1) (trodAll_cons_mk (Below.trod laidOut (by kernel_rfl) (of_decide_eq_true (by kernel_rfl)) h2 bel lt2) (trodAll_cons_mk (Below.trod laidOut (by kernel_rfl) (of_decide_eq_true (by kernel_rfl)) h3 bel lt3) trodAll_mk0)))), hpv, bel.frame _, fun h => by cases h⟩
noncomputable def q56 (os : Os) : World := { World.holding Tryz.prog os ⟨#[], #[], []⟩ with heap := (((((((World.holding Tryz.prog os ⟨#[], #[], []⟩).heap.modify 5 fun | .cells _ t frozen => .cells #[.int .u8 0, .int .u8 1, .int .u8 28, .int .u8 2, .int .u8 29, .int .u8 14, .int .u8 24, .int .u8 3, .int .u8 30, .int .u8 22, .int .u8 20, .int .u8 15, .int .u8 25, .int .u8 17, .int .u8 4, .int .u8 8, .int .u8 31, .int .u8 27, .int .u8 13, .int .u8 23, .int .u8 21, .int .u8 19, .int .u8 16, .int .u8 7, .int .u8 26, .int .u8 12, .int .u8 18, .int .u8 6, .int .u8 11, .int .u8 5, .int .u8 10, .int .u8 9] t frozen | o => o).modify 6 fun | .cells _ t frozen => .cells #[.int .u8 0, .int .u8 1, .int .u8 56, .int .u8 2, .int .u8 57, .int .u8 49, .int .u8 28, .int .u8 3, .int .u8 61, .int .u8 58, .int .u8 42, .int .u8 50, .int .u8 38, .int .u8 29, .int .u8 17, .int .u8 4, .int .u8 62, .int .u8 47, .int .u8 59, .int .u8 36, .int .u8 45, .int .u8 43, .int .u8 51, .int .u8 22, .int .u8 53, .int .u8 39, .int .u8 33, .int .u8 30, .int .u8 24, .int .u8 18, .int .u8 12, .int .u8 5, .int .u8 63, .int .u8 55, .int .u8 48, .int .u8 27, .int .u8 60, .int .u8 41, .int .u8 37, .int .u8 16, .int .u8 46, .int .u8 35, .int .u8 44, .int .u8 21, .int .u8 52, .int .u8 32, .int .u8 23, .int .u8 11, .int .u8 54, .int .u8 26, .int .u8 40, .int .u8 15, .int .u8 34, .int .u8 20, .int .u8 31, .int .u8 10, .int .u8 25, .int .u8 14, .int .u8 19, .int .u8 9, .int .u8 13, .int .u8 8, .int .u8 7, .int .u8 6] t frozen | o => o).modify 1 fun | .cells _ t frozen => .cells #[.int .u64 1, .int .u64 10, .int .u64 100, .int .u64 1000, .int .u64 10000, .int .u64 100000, .int .u64 1000000, .int .u64 10000000, .int .u64 100000000, .int .u64 1000000000, .int .u64 10000000000, .int .u64 100000000000, .int .u64 1000000000000, .int .u64 10000000000000, .int .u64 100000000000000, .int .u64 1000000000000000, .int .u64 10000000000000000, .int .u64 100000000000000000, .int .u64 1000000000000000000, .int .u64 10000000000000000000] t frozen | o => o).modify 4 fun | .cells _ t frozen => .cells #[.int .u8 128, .int .u8 191, .int .u8 160, .int .u8 191, .int .u8 128, .int .u8 159, .int .u8 144, .int .u8 191, .int .u8 128, .int .u8 143, .int .u8 0, .int .u8 0, .int .u8 0, .int .u8 0, .int .u8 0, .int .u8 0, .int .u8 0, .int .u8 0, .int .u8 0, .int .u8 0, .int .u8 0, .int .u8 0, .int .u8 0, .int .u8 0, .int .u8 0, .int .u8 0, .int .u8 0, .int .u8 0, .int .u8 0, .int .u8 0, .int .u8 0, .int .u8 0] t frozen | o => o).modify 0 fun | .cells _ t frozen => .cells #[.int .u32 1116352408, .int .u32 1899447441, .int .u32 3049323471, .int .u32 3921009573, .int .u32 961987163, .int .u32 1508970993, .int .u32 2453635748, .int .u32 2870763221, .int .u32 3624381080, .int .u32 310598401, .int .u32 607225278, .int .u32 1426881987, .int .u32 1925078388, .int .u32 2162078206, .int .u32 2614888103, .int .u32 3248222580, .int .u32 3835390401, .int .u32 4022224774, .int .u32 264347078, .int .u32 604807628, .int .u32 770255983, .int .u32 1249150122, .int .u32 1555081692, .int .u32 1996064986, .int .u32 2554220882, .int .u32 2821834349, .int .u32 2952996808, .int .u32 3210313671, .int .u32 3336571891, .int .u32 3584528711, .int .u32 113926993, .int .u32 338241895, .int .u32 666307205, .int .u32 773529912, .int .u32 1294757372, .int .u32 1396182291, .int .u32 1695183700, .int .u32 1986661051, .int .u32 2177026350, .int .u32 2456956037, .int .u32 2730485921, .int .u32 2820302411, .int .u32 3259730800, .int .u32 3345764771, .int .u32 3516065817, .int .u32 3600352804, .int .u32 4094571909, .int .u32 275423344, .int .u32 430227734, .int .u32 506948616, .int .u32 659060556, .int .u32 883997877, .int .u32 958139571, .int .u32 1322822218, .int .u32 1537002063, .int .u32 1747873779, .int .u32 1955562222, .int .u32 2024104815, .int .u32 2227730452, .int .u32 2361852424, .int .u32 2428436474, .int .u32 2756734187, .int .u32 3204031479, .int .u32 3329325298] t frozen | o => o).modify 3 fun | .cells _ t frozen => .cells #[.int .u8 240, .int .u8 240, .int .u8 240, .int .u8 240, .int .u8 240, .int .u8 240, .int .u8 240, .int .u8 240, .int .u8 240, .int .u8 240, .int .u8 240, .int .u8 240, .int .u8 240, .int .u8 240, .int .u8 240, .int .u8 240, .int .u8 240, .int .u8 240, .int .u8 240, .int .u8 240, .int .u8 240, .int .u8 240, .int .u8 240, .int .u8 240, .int .u8 240, .int .u8 240, .int .u8 240, .int .u8 240, .int .u8 240, .int .u8 240, .int .u8 240, .int .u8 240, .int .u8 240, .int .u8 240, .int .u8 240, .int .u8 240, .int .u8 240, .int .u8 240, .int .u8 240, .int .u8 240, .int .u8 240, .int .u8 240, .int .u8 240, .int .u8 240, .int .u8 240, .int .u8 240, .int .u8 240, .int .u8 240, .int .u8 240, .int .u8 240, .int .u8 240, .int .u8 240, .int .u8 240, .int .u8 240, .int .u8 240, .int .u8 240, .int .u8 240, .int .u8 240, .int .u8 240, .int .u8 240, .int .u8 240, .int .u8 240, .int .u8 240, .int .u8 240, .int .u8 240, .int .u8 240, .int .u8 240, .int .u8 240, .int .u8 240, .int .u8 240, .int .u8 240, .int .u8 240, .int .u8 240, .int .u8 240, .int .u8 240, .int .u8 240, .int .u8 240, .int .u8 240, .int .u8 240, .int .u8 240, .int .u8 240, .int .u8 240, .int .u8 240, .int .u8 240, .int .u8 240, .int .u8 240, .int .u8 240, .int .u8 240, .int .u8 240, .int .u8 240, .int .u8 240, .int .u8 240, .int .u8 240, .int .u8 240, .int .u8 240, .int .u8 240, .int .u8 240, .int .u8 240, .int .u8 240, .int .u8 240, .int .u8 240, .int .u8 240, .int .u8 240, .int .u8 240, .int .u8 240, .int .u8 240, .int .u8 240, .int .u8 240, .int .u8 240, .int .u8 240, .int .u8 240, .int .u8 240, .int .u8 240, .int .u8 240, .int .u8 240, .int .u8 240, .int .u8 240, .int .u8 240, .int .u8 240, .int .u8 240, .int .u8 240, .int .u8 240, .int .u8 240, .int .u8 240, .int .u8 240, .int .u8 240, .int .u8 240, .int .u8 240, .int .u8 241, .int .u8 241, .int .u8 241, .int .u8 241, .int .u8 241, .int .u8 241, .int .u8 241, .int .u8 241, .int .u8 241, .int .u8 241, .int .u8 241, .int .u8 241, .int .u8 241, .int .u8 241, .int .u8 241, .int .u8 241, .int .u8 241, .int .u8 241, .int .u8 241, .int .u8 241, .int .u8 241, .int .u8 241, .int .u8 241, .int .u8 241, .int .u8 241, .int .u8 241, .int .u8 241, .int .u8 241, .int .u8 241, .int .u8 241, .int .u8 241, .int .u8 241, .int .u8 241, .int .u8 241, .int .u8 241, .int .u8 241, .int .u8 241, .int .u8 241, .int .u8 241, .int .u8 241, .int .u8 241, .int .u8 241, .int .u8 241, .int .u8 241, .int .u8 241, .int .u8 241, .int .u8 241, .int .u8 241, .int .u8 241, .int .u8 241, .int .u8 241, .int .u8 241, .int .u8 241, .int .u8 241, .int .u8 241, .int .u8 241, .int .u8 241, .int .u8 241, .int .u8 241, .int .u8 241, .int .u8 241, .int .u8 241, .int .u8 241, .int .u8 241, .int .u8 241, .int .u8 241, .int .u8 2, .int .u8 2, .int .u8 2, .int .u8 2, .int .u8 2, .int .u8 2, .int .u8 2, .int .u8 2, .int .u8 2, .int .u8 2, .int .u8 2, .int .u8 2, .int .u8 2, .int .u8 2, .int .u8 2, .int .u8 2, .int .u8 2, .int .u8 2, .int .u8 2, .int .u8 2, .int .u8 2, .int .u8 2, .int .u8 2, .int .u8 2, .int .u8 2, .int .u8 2, .int .u8 2, .int .u8 2, .int .u8 2, .int .u8 2, .int .u8 19, .int .u8 3, .int .u8 3, .int .u8 3, .int .u8 3, .int .u8 3, .int .u8 3, .int .u8 3, .int .u8 3, .int .u8 3, .int .u8 3, .int .u8 3, .int .u8 3, .int .u8 35, .int .u8 3, .int .u8 3, .int .u8 52, .int .u8 4, .int .u8 4, .int .u8 4, .int .u8 68, .int .u8 241, .int .u8 241, .int .u8 241, .int .u8 241, .int .u8 241, .int .u8 241, .int .u8 241, .int .u8 241, .int .u8 241, .int .u8 241, .int .u8 241] t frozen | o => o) }
set_option maxRecDepth 100000 in
theorem q8x (os : Os) : laidMet Tryz.prog Rows.fnExactReleaseOfRow.laid ((q56 os).forCall (fun _ _ => 0) ⟨#[], #[.string ByteArray.empty, .int .i64 0, .agg #[.slice none 0 0, .slice none 0 0], .agg #[.slice none 0 0, .slice none 0 0]], []⟩).memory :=
  laidMet_of_run' 12 (by kernel_rfl) (by kernel_rfl)
set_option maxRecDepth 100000 in
theorem reads (os : Os) {H : Type} (enc : TypeId × Value → H) : ∃ x, DataW.whole enc Tryz.prog ((q56 os).forCall (fun _ _ => 0) ⟨#[], #[.string ByteArray.empty, .int .i64 0, .agg #[.slice none 0 0, .slice none 0 0], .agg #[.slice none 0 0, .slice none 0 0]], []⟩).memory Tryz.f4.params.toList Rows.fnExactReleaseOfSpec.vars false #[(.string ByteArray.empty : Value), (.int .i64 0 : Value), (.agg #[.slice none 0 0, .slice none 0 0] : Value), (.agg #[.slice none 0 0, .slice none 0 0] : Value)].toList 12 = some x :=
  Option.isSome_iff_exists.1 (by kernel_rfl)
set_option maxRecDepth 100000 in
theorem lifted (os : Os) (started : os.Started) (H : Type) (enc : TypeId × Value → H) (F : Stop.Interp) :
    ReturnsInHanded {} Tryz.checked os 4 .any ((OpenSpec.ofChange Rows.fnExactReleaseOfSpec).preRow enc Tryz.prog Tryz.f4 Rows.fnExactReleaseOfRow.domain false Rows.fnExactReleaseOfRow.laid) (((OpenSpec.ofChange Rows.fnExactReleaseOfSpec).at F).post enc Tryz.prog Tryz.f4 false true false false) := by
  obtain ⟨x, hx⟩ := reads os enc
  refine returnsInHanded_of_row (C := Tryz.checked) (s := OpenSpec.ofChange Rows.fnExactReleaseOfSpec) own started (by kernel_rfl) Tryz.func4
    (witness_row_at (enc := enc) (C := Tryz.checked) false (q56 os) #[.string ByteArray.empty, .int .i64 0, .agg #[.slice none 0 0, .slice none 0 0], .agg #[.slice none 0 0, .slice none 0 0]] rfl (by kernel_rfl) (by kernel_rfl) (by kernel_rfl)
      (OpenSpec.preRow_of_cond 12 (x := x) hx (by kernel_rfl) (fun k hk => by cases hk) (by kernel_rfl) (q8x os))) ?_
  intro W base args ds gs before hval hW _ _ hsz hL hsh _
  exact contract H enc W base args ds gs before hval hW hsz hL hsh
theorem said : Rows.FnExactReleaseOfSaid :=
  OpenClaim.holds_of_cond 4 Tryz.f4 rfl rfl rfl rfl rfl rfl rfl ⟨rfl, rfl, rfl, rfl, rfl⟩ rfl rfl rfl rfl rfl (by kernel_rfl) Tryz.func4 (by kernel_rfl)
    (of_decide_eq_true (by kernel_rfl)) (by unfold Func.isWrapper; first | (rw [if_pos (by decide +kernel)]; kernel_rfl) | (rw [if_neg (by decide +kernel)]; exact ⟨rfl, rfl⟩))
    (fun os started H enc _ F => by rw [OpenClaim.pre_eq_preRow]; exact lifted os started H enc F)
theorem plain (f : FuncId) (fn : Func) (hf : Tryz.pinned.checked.prog.funcNamed "loop.example/medlar/laws.FnExactReleaseOf" = some f) (hfn : Tryz.pinned.checked.prog.funcs[f]? = some fn) :
    false = Tryz.pinned.checked.prog.looks [] ∧ ∀ (j : Nat) t, fn.params[j]? = some t → Tryz.pinned.checked.prog.wantsStandIn t = false := by
  obtain rfl : f = 4 := Option.some.inj ((show Tryz.prog.funcNamed "loop.example/medlar/laws.FnExactReleaseOf" = some 4 by kernel_rfl).symm.trans hf) |>.symm
  obtain rfl : fn = Tryz.f4 := (Option.some.inj (Tryz.func4.symm.trans hfn)).symm
  refine ⟨by kernel_rfl, fun j t ht => ?_⟩
  rw [Tryz.params4] at ht
  have hm := Array.mem_of_getElem? ht
  simp only [List.mem_toArray, List.mem_cons, List.not_mem_nil, or_false] at hm
  rcases hm with rfl | rfl | rfl | rfl
  · exact (show Tryz.prog.wantsStandIn 9 = false by kernel_rfl)
  · exact (show Tryz.prog.wantsStandIn 3 = false by kernel_rfl)
  · exact (show Tryz.prog.wantsStandIn 39 = false by kernel_rfl)
  · exact (show Tryz.prog.wantsStandIn 39 = false by kernel_rfl)
theorem card : Rows.FnExactReleaseOfCardSaid :=
  Claim7.holds_tied_plain_at .later [] _ _ _ _ said (fun _ h => by cases h) (by kernel_rfl) (fun _ h => by cases h) fnExactReleaseOf_row_tie rfl ⟨rfl, rfl⟩ (by kernel_rfl) rfl plain (by kernel_rfl)
end Go.Proofs.YtnjdoinlnbjedaaGreatDoor.fnExactReleaseOf
namespace Go.Proofs.YtnjdoinlnbjedaaGreatDoor
theorem fnExactReleaseOf_holds : Rows.FnExactReleaseOfCardSaid := fnExactReleaseOf.card
end Go.Proofs.YtnjdoinlnbjedaaGreatDoor
end
