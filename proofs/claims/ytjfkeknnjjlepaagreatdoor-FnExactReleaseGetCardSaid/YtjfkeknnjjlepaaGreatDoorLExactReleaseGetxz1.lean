import Derived.Test.YtjfkeknnjjlepaaGreatDoorLExactReleaseGetx1
import Derived.Test.YtjfkeknnjjlepaaGreatDoorKz2
import Derived.Test.YtjfkeknnjjlepaaGreatDoorRows
import Derived.Test.YtjfkeknnjjlepaaGreatDoorCards
import Derived.Test.YtjfkeknnjjlepaaGreatDoorTie
import Derived.WalkKit
import Derived.ProofKit
import Derived.OpenShut
import Derived.ShutString
import Derived.ChangeOld
import Derived.Below
import Derived.Carry
import Derived.SizedLaws
import Derived.Deep.DeepHandedRow
import Derived.Lib.LaidTab
import Derived.Lay

section
namespace Go.Proofs.YtjfkeknnjjlepaaGreatDoor.Rf
open Go Go.RowKit
set_option linter.unusedVariables false
noncomputable section
def q18.C (k : Nat) : CEs := []
abbrev q18.ps : List Par := [⟨(.row .str), .rd⟩, ⟨(.row .str), .rd⟩]
abbrev q18.rs : List Res := [⟨.bool, .ro, false⟩]
def q18.H : q3q := [(4, [(0, .ro), (1, .ro), (5, .ro)])]
def q18.F := q3t E q18.C q18.H Tryz.f40 q18.ps q18.rs
def q18.L4 (k k1 : Nat) (x0 : List ByteArray) (x1 : List ByteArray) (x5 : Int) : Option (Bool) := atL E q18.C q18.H Tryz.f40 q18.ps q18.rs [true, true, false, true, true] k [] k1 (sh 26 [(0, .d (.row .str) x0 .ro), (1, .d (.row .str) x1 .ro), (5, .d (.int .i64) x5 .ro)])
def q18.f (k : Nat) (x0 : List ByteArray) (x1 : List ByteArray) : Option (Bool) := q18.F k (x0, x1)
theorem q18.f_eq (k : Nat) (x0 : List ByteArray) (x1 : List ByteArray) : q18.f k x0 x1 = ifb ((x0.length : Int) != (x1.length : Int)) (some false) (q18.L4 k k x0 x1 (0 : Int)) := by kernel_rfl
theorem q18.L4_eq (k k1 : Nat) (x0 : List ByteArray) (x1 : List ByteArray) (x5 : Int) : q18.L4 k (k1 + 1) x0 x1 x5 = ifb (decide (x5 < (x0.length : Int))) (ifb (decide (0 ≤ x5) && decide (x5 < (x0.length : Int))) (ifb (decide (0 ≤ x5) && decide (x5 < (x1.length : Int))) (ifb (!((x0.getD x5.toNat bz).toList == (x1.getD x5.toNat bz).toList)) (some false) (q18.L4 k k1 x0 x1 (w64 (x5 + 1)))) (none)) (none)) (some true) := by kernel_rfl
abbrev q18.e (k : Nat) : FuncId × CE := (40, ⟨q18.ps, q18.rs, q18.F k⟩)
theorem q18.q (k : Nat) : Qs (q18.e k) := qq (C := q18.C) (fun k => .nil) k
def q39.C (k : Nat) : CEs := []
abbrev q39.ps : List Par := [⟨qg3, .rd⟩, ⟨qg3, .rd⟩]
abbrev q39.rs : List Res := [⟨.bool, .ro, false⟩]
def q39.F := q3t E q39.C [] Tryz.f192 q39.ps q39.rs
def q39.f (k : Nat) (x0 : ByteArray × ByteArray) (x1 : ByteArray × ByteArray) : Option (Bool) := q39.F k (x0, x1)
theorem q39.f_eq (k : Nat) (x0 : ByteArray × ByteArray) (x1 : ByteArray × ByteArray) : q39.f k x0 x1 = ifb (!(x0.1.toList == x1.1.toList)) (some false) (ifb (!(x0.2.toList == x1.2.toList)) (some false) (some true)) := by kernel_rfl
abbrev q39.e (k : Nat) : FuncId × CE := (192, ⟨q39.ps, q39.rs, q39.F k⟩)
theorem q39.q (k : Nat) : Qs (q39.e k) := qq (C := q39.C) (fun k => .nil) k
def q1g.C (k : Nat) : CEs := [q39.e k]
abbrev q1g.ps : List Par := [⟨t23, .rd⟩, ⟨t23, .rd⟩]
abbrev q1g.rs : List Res := [⟨.bool, .ro, false⟩]
def q1g.H : q3q := [(4, [(0, .ro), (1, .ro), (5, .ro)])]
def q1g.F := q3t E q1g.C q1g.H Tryz.f131 q1g.ps q1g.rs
def q1g.L4 (k k1 : Nat) (x0 : List En) (x1 : List En) (x5 : Int) : Option (Bool) := atL E q1g.C q1g.H Tryz.f131 q1g.ps q1g.rs [true, true, false, true, true] k [] k1 (sh 27 [(0, .d t23 x0 .ro), (1, .d t23 x1 .ro), (5, .d (.int .i64) x5 .ro)])
def q1g.f (k : Nat) (x0 : List En) (x1 : List En) : Option (Bool) := q1g.F k (x0, x1)
theorem q1g.f_eq (k : Nat) (x0 : List En) (x1 : List En) : q1g.f k x0 x1 = ifb ((x0.length : Int) != (x1.length : Int)) (some false) (q1g.L4 k k x0 x1 (0 : Int)) := by kernel_rfl
theorem q1g.L4_eq (k k1 : Nat) (x0 : List En) (x1 : List En) (x5 : Int) : q1g.L4 k (k1 + 1) x0 x1 x5 = ifb (decide (x5 < (x0.length : Int))) (ifb (decide (0 ≤ x5) && decide (x5 < (x0.length : Int))) (ifb (decide (0 ≤ x5) && decide (x5 < (x1.length : Int))) ((q39.f k1 (x0.getD x5.toNat zE) (x1.getD x5.toNat zE)).bind fun (r0 : Bool) => ifb (!r0) (some false) (q1g.L4 k k1 x0 x1 (w64 (x5 + 1)))) (none)) (none)) (some true) := by kernel_rfl
abbrev q1g.e (k : Nat) : FuncId × CE := (131, ⟨q1g.ps, q1g.rs, q1g.F k⟩)
theorem q1g.q (k : Nat) : Qs (q1g.e k) := qq (C := q1g.C) (fun k => .c (q39.q k) <| .nil) k
def q3a.C (k : Nat) : CEs := []
abbrev q3a.ps : List Par := [⟨qbz, .rd⟩, ⟨qbz, .rd⟩]
abbrev q3a.rs : List Res := [⟨.bool, .ro, false⟩]
def q3a.F := q3t E q3a.C [] Tryz.f193 q3a.ps q3a.rs
def q3a.f (k : Nat) (x0 : Aff) (x1 : Aff) : Option (Bool) := q3a.F k (x0, x1)
theorem q3a.f_eq (k : Nat) (x0 : Aff) (x1 : Aff) : q3a.f k x0 x1 = ifb (!(x0.1.toList == x1.1.toList)) (some false) (ifb (!(x0.2.1 == x1.2.1)) (some false) (ifb (!(x0.2.2.1.toList == x1.2.2.1.toList)) (some false) (ifb (!(x0.2.2.2.1.toList == x1.2.2.2.1.toList)) (some false) (ifb (!(x0.2.2.2.2.toList == x1.2.2.2.2.toList)) (some false) (some true))))) := by kernel_rfl
abbrev q3a.e (k : Nat) : FuncId × CE := (193, ⟨q3a.ps, q3a.rs, q3a.F k⟩)
theorem q3a.q (k : Nat) : Qs (q3a.e k) := qq (C := q3a.C) (fun k => .nil) k
def q1h.C (k : Nat) : CEs := [q3a.e k]
abbrev q1h.ps : List Par := [⟨t24, .rd⟩, ⟨t24, .rd⟩]
abbrev q1h.rs : List Res := [⟨.bool, .ro, false⟩]
def q1h.H : q3q := [(4, [(0, .ro), (1, .ro), (5, .ro)])]
def q1h.F := q3t E q1h.C q1h.H Tryz.f132 q1h.ps q1h.rs
def q1h.L4 (k k1 : Nat) (x0 : List Aff) (x1 : List Aff) (x5 : Int) : Option (Bool) := atL E q1h.C q1h.H Tryz.f132 q1h.ps q1h.rs [true, true, false, true, true] k [] k1 (sh 27 [(0, .d t24 x0 .ro), (1, .d t24 x1 .ro), (5, .d (.int .i64) x5 .ro)])
def q1h.f (k : Nat) (x0 : List Aff) (x1 : List Aff) : Option (Bool) := q1h.F k (x0, x1)
theorem q1h.f_eq (k : Nat) (x0 : List Aff) (x1 : List Aff) : q1h.f k x0 x1 = ifb ((x0.length : Int) != (x1.length : Int)) (some false) (q1h.L4 k k x0 x1 (0 : Int)) := by kernel_rfl
theorem q1h.L4_eq (k k1 : Nat) (x0 : List Aff) (x1 : List Aff) (x5 : Int) : q1h.L4 k (k1 + 1) x0 x1 x5 = ifb (decide (x5 < (x0.length : Int))) (ifb (decide (0 ≤ x5) && decide (x5 < (x0.length : Int))) (ifb (decide (0 ≤ x5) && decide (x5 < (x1.length : Int))) ((q3a.f k1 (x0.getD x5.toNat zA) (x1.getD x5.toNat zA)).bind fun (r0 : Bool) => ifb (!r0) (some false) (q1h.L4 k k1 x0 x1 (w64 (x5 + 1)))) (none)) (none)) (some true) := by kernel_rfl
abbrev q1h.e (k : Nat) : FuncId × CE := (132, ⟨q1h.ps, q1h.rs, q1h.F k⟩)
theorem q1h.q (k : Nat) : Qs (q1h.e k) := qq (C := q1h.C) (fun k => .c (q3a.q k) <| .nil) k
def q3b.C (k : Nat) : CEs := [q18.e k, q1g.e k, q1h.e k]
abbrev q3b.ps : List Par := [⟨t25, .rd⟩, ⟨t25, .rd⟩]
abbrev q3b.rs : List Res := [⟨.bool, .ro, false⟩]
def q3b.F := q3t E q3b.C [] Tryz.f69 q3b.ps q3b.rs
def q3b.f (k : Nat) (x0 : Delta) (x1 : Delta) : Option (Bool) := q3b.F k (x0, x1)
theorem q3b.f_eq (k : Nat) (x0 : Delta) (x1 : Delta) : q3b.f k x0 x1 = (q18.f k x0.1 x1.1).bind fun (r0 : Bool) => ifb (!r0) (some false) ((q1g.f k x0.2.1 x1.2.1).bind fun (r1 : Bool) => ifb (!r1) (some false) (ifb (!(x0.2.2.1 == x1.2.2.1)) (some false) ((q1h.f k x0.2.2.2 x1.2.2.2).bind fun (r2 : Bool) => ifb (!r2) (some false) (some true)))) := by kernel_rfl
abbrev q3b.e (k : Nat) : FuncId × CE := (69, ⟨q3b.ps, q3b.rs, q3b.F k⟩)
theorem q3b.q (k : Nat) : Qs (q3b.e k) := qq (C := q3b.C) (fun k => .c (q18.q k) <| .c (q1g.q k) <| .c (q1h.q k) <| .nil) k
def q2i.C (k : Nat) : CEs := [q3b.e k]
abbrev q2i.ps : List Par := [⟨t27, .rd⟩, ⟨t27, .rd⟩]
abbrev q2i.rs : List Res := [⟨.bool, .ro, false⟩]
def q2i.F := q3t E q2i.C [] Tryz.f19 q2i.ps q2i.rs
def q2i.f (k : Nat) (x0 : Release) (x1 : Release) : Option (Bool) := q2i.F k (x0, x1)
theorem q2i.f_eq (k : Nat) (x0 : Release) (x1 : Release) : q2i.f k x0 x1 = ifb (x0.1 != x1.1) (some false) ((q3b.f k x0.2.1 x1.2.1).bind fun (r0 : Bool) => ifb (!r0) (some false) (ifb (!(x0.2.2.1.toList == x1.2.2.1.toList)) (some false) (ifb (!(x0.2.2.2.toList == x1.2.2.2.toList)) (some false) (some true)))) := by kernel_rfl
abbrev q2i.e (k : Nat) : FuncId × CE := (19, ⟨q2i.ps, q2i.rs, q2i.F k⟩)
theorem q2i.q (k : Nat) : Qs (q2i.e k) := qq (C := q2i.C) (fun k => .c (q3b.q k) <| .nil) k
def q0c.C (k : Nat) : CEs := []
abbrev q0c.ps : List Par := [⟨(.int .i64), .rd⟩]
abbrev q0c.rs : List Res := [⟨.str, .ro, false⟩]
def q0c.H : q3q := [(4, [(0, .ro), (3, .ro)])]
def q0c.F := q3t E q0c.C q0c.H Tryz.f105 q0c.ps q0c.rs
def q0c.L4 (k k1 : Nat) (x0 : Int) (x3 : ByteArray) : Option (ByteArray) := atL E q0c.C q0c.H Tryz.f105 q0c.ps q0c.rs [true, true, true, false, true] k [] k1 (sh 20 [(0, .d (.int .i64) x0 .ro), (3, .d .str x3 .ro)])
def q0c.f (k : Nat) (x0 : Int) : Option (ByteArray) := q0c.F k x0
theorem q0c.f_eq (k : Nat) (x0 : Int) : q0c.f k x0 = ifb (decide (x0 ≤ (0 : Int))) (some (⟨#[109, 48]⟩ : ByteArray)) (q0c.L4 k k x0 bz) := by kernel_rfl
theorem q0c.L4_eq (k k1 : Nat) (x0 : Int) (x3 : ByteArray) : q0c.L4 k (k1 + 1) x0 x3 = ifb (decide (x0 > 0)) (ifb (decide ((10 : Int) ≠ 0)) (ifb (q4m ((strOf [(IntKind.u8.wrap (w64 ((48 : Int) + (x0.tmod (10 : Int)))))]).size + x3.size)) (ifb (decide ((10 : Int) ≠ 0)) (q0c.L4 k k1 (w64 (x0.tdiv (10 : Int))) ((strOf [(IntKind.u8.wrap (w64 ((48 : Int) + (x0.tmod (10 : Int)))))]) ++ x3)) (none)) (none)) (none)) (ifb (q4m ((⟨#[109]⟩ : ByteArray).size + x3.size)) (some ((⟨#[109]⟩ : ByteArray) ++ x3)) (none)) := by kernel_rfl
abbrev q0c.e (k : Nat) : FuncId × CE := (105, ⟨q0c.ps, q0c.rs, q0c.F k⟩)
theorem q0c.q (k : Nat) : Qs (q0c.e k) := qq (C := q0c.C) (fun k => .nil) k
def q0q.C (k : Nat) : CEs := [q0c.e k]
abbrev q0q.ps : List Par := [⟨(.row .str), .io (.own .ro)⟩, ⟨(.int .i64), .rd⟩]
abbrev q0q.rs : List Res := [⟨(.int .i64), .ro, false⟩]
def q0q.H : q3q := [(2, [(0, (.own .ro)), (1, .ro), (5, .ro)])]
def q0q.F := q3t E q0q.C q0q.H Tryz.f41 q0q.ps q0q.rs
def q0q.L2 (k k1 : Nat) (x0 : List ByteArray) (x1 : Int) (x5 : Int) : Option (Int × List ByteArray) := atL E q0q.C q0q.H Tryz.f41 q0q.ps q0q.rs [true, false, true, true] k [] k1 (sh 20 [(0, .d (.row .str) x0 (.own .ro)), (1, .d (.int .i64) x1 .ro), (5, .d (.int .i64) x5 .ro)])
def q0q.f (k : Nat) (x0 : List ByteArray) (x1 : Int) : Option (Int × List ByteArray) := q0q.F k (x0, x1)
theorem q0q.f_eq (k : Nat) (x0 : List ByteArray) (x1 : Int) : q0q.f k x0 x1 = q0q.L2 k k x0 x1 (0 : Int) := by kernel_rfl
theorem q0q.L2_eq (k k1 : Nat) (x0 : List ByteArray) (x1 : Int) (x5 : Int) : q0q.L2 k (k1 + 1) x0 x1 x5 = ifb (decide (x5 < (x0.length : Int))) ((q0c.f k1 x1).bind fun (r0 : ByteArray) => ifb (decide (0 ≤ x5) && decide (x5 < (x0.length : Int))) (q0q.L2 k k1 (x0.set x5.toNat r0) (w64 (x1 + 1)) (w64 (x5 + 1))) (none)) (some (x1, x0)) := by kernel_rfl
abbrev q0q.e (k : Nat) : FuncId × CE := (41, ⟨q0q.ps, q0q.rs, q0q.F k⟩)
theorem q0q.q (k : Nat) : Qs (q0q.e k) := qq (C := q0q.C) (fun k => .c (q0c.q k) <| .nil) k
def q0h.C (k : Nat) : CEs := [q0c.e k]
abbrev q0h.ps : List Par := [⟨t23, .io (.own .ro)⟩, ⟨(.int .i64), .rd⟩]
abbrev q0h.rs : List Res := [⟨(.int .i64), .ro, false⟩]
def q0h.H : q3q := [(2, [(0, (.own .ro)), (1, .ro), (5, .ro)]), (7, [(0, (.own .ro)), (1, .ro), (5, .ro)])]
def q0h.F := q3t E q0h.C q0h.H Tryz.f133 q0h.ps q0h.rs
def q0h.L2 (k k1 : Nat) (x0 : List En) (x1 : Int) (x5 : Int) : Option (Int × List En) := atL E q0h.C q0h.H Tryz.f133 q0h.ps q0h.rs [true, false, true, true] k [] k1 (sh 29 [(0, .d t23 x0 (.own .ro)), (1, .d (.int .i64) x1 .ro), (5, .d (.int .i64) x5 .ro)])
def q0h.J7 (k k1 k2 : Nat) (x0 : List En) (x1 : Int) (x5 : Int) : Option (Int × List En) := atJ E q0h.C q0h.H Tryz.f133 q0h.ps q0h.rs [true, false, true, true, true, true, false, true, true, true, true] k [k1] k2 (sh 29 [(0, .d t23 x0 (.own .ro)), (1, .d (.int .i64) x1 .ro), (5, .d (.int .i64) x5 .ro)])
def q0h.f (k : Nat) (x0 : List En) (x1 : Int) : Option (Int × List En) := q0h.F k (x0, x1)
theorem q0h.f_eq (k : Nat) (x0 : List En) (x1 : Int) : q0h.f k x0 x1 = q0h.L2 k k x0 x1 (0 : Int) := by kernel_rfl
theorem q0h.L2_eq (k k1 : Nat) (x0 : List En) (x1 : Int) (x5 : Int) : q0h.L2 k (k1 + 1) x0 x1 x5 = ifb (decide (x5 < (x0.length : Int))) ((q0c.f k1 x1).bind fun (r0 : ByteArray) => ifb (decide (0 ≤ x5) && decide (x5 < (x0.length : Int))) ((q0c.f k1 (w64 (x1 + 1))).bind fun (r1 : ByteArray) => ifb (decide (0 ≤ x5) && decide (x5 < ((x0.set x5.toNat (r0, (x0.getD x5.toNat zE).2)).length : Int))) (q0h.J7 k k1 k1 ((x0.set x5.toNat (r0, (x0.getD x5.toNat zE).2)).set x5.toNat (((x0.set x5.toNat (r0, (x0.getD x5.toNat zE).2)).getD x5.toNat zE).1, r1)) (w64 (x1 + 1)) x5) (none)) (none)) (some (x1, x0)) := by kernel_rfl
theorem q0h.J7_eq (k k1 k2 : Nat) (x0 : List En) (x1 : Int) (x5 : Int) : q0h.J7 k k1 (k2 + 1) x0 x1 x5 = q0h.L2 k k1 x0 (w64 (x1 + 1)) (w64 (x5 + 1)) := by kernel_rfl
abbrev q0h.e (k : Nat) : FuncId × CE := (133, ⟨q0h.ps, q0h.rs, q0h.F k⟩)
theorem q0h.q (k : Nat) : Qs (q0h.e k) := qq (C := q0h.C) (fun k => .c (q0c.q k) <| .nil) k
def q0b.C (k : Nat) : CEs := [q0c.e k]
abbrev q0b.ps : List Par := [⟨t24, .io (.own .ro)⟩, ⟨(.int .i64), .rd⟩]
abbrev q0b.rs : List Res := [⟨(.int .i64), .ro, false⟩]
def q0b.H : q3q := [(2, [(0, (.own .ro)), (1, .ro), (5, .ro)]), (7, [(0, (.own .ro)), (1, .ro), (5, .ro)]), (11, [(0, (.own .ro)), (1, .ro), (5, .ro)])]
def q0b.F := q3t E q0b.C q0b.H Tryz.f134 q0b.ps q0b.rs
def q0b.L2 (k k1 : Nat) (x0 : List Aff) (x1 : Int) (x5 : Int) : Option (Int × List Aff) := atL E q0b.C q0b.H Tryz.f134 q0b.ps q0b.rs [true, false, true, true] k [] k1 (sh 54 [(0, .d t24 x0 (.own .ro)), (1, .d (.int .i64) x1 .ro), (5, .d (.int .i64) x5 .ro)])
def q0b.J7 (k k1 k2 : Nat) (x0 : List Aff) (x1 : Int) (x5 : Int) : Option (Int × List Aff) := atJ E q0b.C q0b.H Tryz.f134 q0b.ps q0b.rs [true, false, true, true, true, true, false, true, true, true, true] k [k1] k2 (sh 54 [(0, .d t24 x0 (.own .ro)), (1, .d (.int .i64) x1 .ro), (5, .d (.int .i64) x5 .ro)])
def q0b.J11 (k k1 k2 : Nat) (x0 : List Aff) (x1 : Int) (x5 : Int) : Option (Int × List Aff) := atJ E q0b.C q0b.H Tryz.f134 q0b.ps q0b.rs [true, false, true, true, true, true, false, true, true, true, true, true, true, true, true] k [k1, 0] k2 (sh 54 [(0, .d t24 x0 (.own .ro)), (1, .d (.int .i64) x1 .ro), (5, .d (.int .i64) x5 .ro)])
def q0b.f (k : Nat) (x0 : List Aff) (x1 : Int) : Option (Int × List Aff) := q0b.F k (x0, x1)
theorem q0b.f_eq (k : Nat) (x0 : List Aff) (x1 : Int) : q0b.f k x0 x1 = q0b.L2 k k x0 x1 (0 : Int) := by kernel_rfl
theorem q0b.L2_eq (k k1 : Nat) (x0 : List Aff) (x1 : Int) (x5 : Int) : q0b.L2 k (k1 + 1) x0 x1 x5 = ifb (decide (x5 < (x0.length : Int))) ((q0c.f k1 x1).bind fun (r0 : ByteArray) => ifb (decide (0 ≤ x5) && decide (x5 < (x0.length : Int))) (ifb (decide ((3 : Int) ≠ 0)) (ifb (decide (0 ≤ x5) && decide (x5 < ((x0.set x5.toNat (r0, (x0.getD x5.toNat zA).2)).length : Int))) (q0b.J7 k k1 k1 ((x0.set x5.toNat (r0, (x0.getD x5.toNat zA).2)).set x5.toNat (((x0.set x5.toNat (r0, (x0.getD x5.toNat zA).2)).getD x5.toNat zA).1, (((w64 (x1 + 1)).tmod (3 : Int)) == (0 : Int)), (((x0.set x5.toNat (r0, (x0.getD x5.toNat zA).2)).getD x5.toNat zA).2).2)) (w64 (x1 + 1)) x5) (none)) (none)) (none)) (some (x1, x0)) := by kernel_rfl
theorem q0b.J7_eq (k k1 k2 : Nat) (x0 : List Aff) (x1 : Int) (x5 : Int) : q0b.J7 k k1 (k2 + 1) x0 x1 x5 = (q0c.f k2 (w64 (x1 + 1))).bind fun (r1 : ByteArray) => ifb (decide (0 ≤ x5) && decide (x5 < (x0.length : Int))) ((q0c.f k2 (w64 ((w64 (x1 + 1)) + 1))).bind fun (r2 : ByteArray) => ifb (decide (0 ≤ x5) && decide (x5 < ((x0.set x5.toNat ((x0.getD x5.toNat zA).1, ((x0.getD x5.toNat zA).2).1, r1, (((x0.getD x5.toNat zA).2).2).2)).length : Int))) (q0b.J11 k k1 k2 ((x0.set x5.toNat ((x0.getD x5.toNat zA).1, ((x0.getD x5.toNat zA).2).1, r1, (((x0.getD x5.toNat zA).2).2).2)).set x5.toNat (((x0.set x5.toNat ((x0.getD x5.toNat zA).1, ((x0.getD x5.toNat zA).2).1, r1, (((x0.getD x5.toNat zA).2).2).2)).getD x5.toNat zA).1, (((x0.set x5.toNat ((x0.getD x5.toNat zA).1, ((x0.getD x5.toNat zA).2).1, r1, (((x0.getD x5.toNat zA).2).2).2)).getD x5.toNat zA).2).1, ((((x0.set x5.toNat ((x0.getD x5.toNat zA).1, ((x0.getD x5.toNat zA).2).1, r1, (((x0.getD x5.toNat zA).2).2).2)).getD x5.toNat zA).2).2).1, r2, (((((x0.set x5.toNat ((x0.getD x5.toNat zA).1, ((x0.getD x5.toNat zA).2).1, r1, (((x0.getD x5.toNat zA).2).2).2)).getD x5.toNat zA).2).2).2).2)) (w64 ((w64 (x1 + 1)) + 1)) x5) (none)) (none) := by kernel_rfl
theorem q0b.J11_eq (k k1 k2 : Nat) (x0 : List Aff) (x1 : Int) (x5 : Int) : q0b.J11 k k1 (k2 + 1) x0 x1 x5 = (q0c.f k2 (w64 (x1 + 1))).bind fun (r3 : ByteArray) => ifb (decide (0 ≤ x5) && decide (x5 < (x0.length : Int))) (q0b.L2 k k1 (x0.set x5.toNat ((x0.getD x5.toNat zA).1, ((x0.getD x5.toNat zA).2).1, (((x0.getD x5.toNat zA).2).2).1, ((((x0.getD x5.toNat zA).2).2).2).1, r3)) (w64 ((w64 (x1 + 1)) + 1)) (w64 (x5 + 1))) (none) := by kernel_rfl
abbrev q0b.e (k : Nat) : FuncId × CE := (134, ⟨q0b.ps, q0b.rs, q0b.F k⟩)
theorem q0b.q (k : Nat) : Qs (q0b.e k) := qq (C := q0b.C) (fun k => .c (q0c.q k) <| .nil) k
def q2r.C (k : Nat) : CEs := [q0q.e k, q0h.e k, q0b.e k]
abbrev q2r.ps : List Par := [⟨t25, .io (.pr (.own .ro) (.pr (.own .ro) (.pr .ro (.own .ro))))⟩, ⟨(.int .i64), .rd⟩]
abbrev q2r.rs : List Res := [⟨(.int .i64), .ro, false⟩]
def q2r.F := qln E q2r.C [] Tryz.f70 q2r.ps q2r.rs
def q2r.f (k : Nat) (x0 : Delta) (x1 : Int) : Option (Int × Delta) := q2r.F k (x0, x1)
theorem q2r.f_eq (k : Nat) (x0 : Delta) (x1 : Int) : q2r.f k x0 x1 = (q0q.f k x0.1 x1).bind fun (r0 : Int × List ByteArray) => (q0h.f k x0.2.1 r0.1).bind fun (r1 : Int × List En) => (q0b.f k x0.2.2.2 r1.1).bind fun (r2 : Int × List Aff) => some (r2.1, (r0.2, r1.2, x0.2.2.1, r2.2)) := by kernel_rfl
abbrev q2r.e (k : Nat) : FuncId × CE := (70, ⟨q2r.ps, q2r.rs, q2r.F k⟩)
theorem q2r.q (k : Nat) : Qs (q2r.e k) := qb (C := q2r.C) (fun k => .c (q0q.q k) <| .c (q0h.q k) <| .c (q0b.q k) <| .nil) k
def q28.C (k : Nat) : CEs := [q2r.e k]
abbrev q28.ps : List Par := [⟨t27, .io (.pr .ro (.pr (.pr (.own .ro) (.pr (.own .ro) (.pr .ro (.own .ro)))) .ro))⟩, ⟨(.int .i64), .rd⟩]
abbrev q28.rs : List Res := [⟨(.int .i64), .ro, false⟩]
def q28.F := qln E q28.C [] Tryz.f20 q28.ps q28.rs
def q28.f (k : Nat) (x0 : Release) (x1 : Int) : Option (Int × Release) := q28.F k (x0, x1)
theorem q28.f_eq (k : Nat) (x0 : Release) (x1 : Int) : q28.f k x0 x1 = (q2r.f k x0.2.1 x1).bind fun (r0 : Int × Delta) => some (r0.1, (x0.1, r0.2, x0.2.2)) := by kernel_rfl
abbrev q28.e (k : Nat) : FuncId × CE := (20, ⟨q28.ps, q28.rs, q28.F k⟩)
theorem q28.q (k : Nat) : Qs (q28.e k) := qb (C := q28.C) (fun k => .c (q2r.q k) <| .nil) k
def q0r.C (k : Nat) : CEs := [q0c.e k]
abbrev q0r.ps : List Par := [⟨(.row .str), .rd⟩, ⟨(.int .i64), .rd⟩]
abbrev q0r.rs : List Res := [⟨(.int .i64), .ro, false⟩]
def q0r.H : q3q := [(2, [(0, .ro), (1, .ro), (5, .ro)])]
def q0r.F := q3t E q0r.C q0r.H Tryz.f42 q0r.ps q0r.rs
def q0r.L2 (k k1 : Nat) (x0 : List ByteArray) (x1 : Int) (x5 : Int) : Option (Int) := atL E q0r.C q0r.H Tryz.f42 q0r.ps q0r.rs [true, false, true, true] k [] k1 (sh 22 [(0, .d (.row .str) x0 .ro), (1, .d (.int .i64) x1 .ro), (5, .d (.int .i64) x5 .ro)])
def q0r.f (k : Nat) (x0 : List ByteArray) (x1 : Int) : Option (Int) := q0r.F k (x0, x1)
theorem q0r.f_eq (k : Nat) (x0 : List ByteArray) (x1 : Int) : q0r.f k x0 x1 = q0r.L2 k k x0 x1 (0 : Int) := by kernel_rfl
theorem q0r.L2_eq (k k1 : Nat) (x0 : List ByteArray) (x1 : Int) (x5 : Int) : q0r.L2 k (k1 + 1) x0 x1 x5 = ifb (decide (x5 < (x0.length : Int))) (ifb (decide (0 ≤ x5) && decide (x5 < (x0.length : Int))) ((q0c.f k1 x1).bind fun (r0 : ByteArray) => ifb (!((x0.getD x5.toNat bz).toList == r0.toList)) (some (-1 : Int)) (q0r.L2 k k1 x0 (w64 (x1 + 1)) (w64 (x5 + 1)))) (none)) (some x1) := by kernel_rfl
abbrev q0r.e (k : Nat) : FuncId × CE := (42, ⟨q0r.ps, q0r.rs, q0r.F k⟩)
theorem q0r.q (k : Nat) : Qs (q0r.e k) := qq (C := q0r.C) (fun k => .c (q0c.q k) <| .nil) k
def q0v.C (k : Nat) : CEs := [q0c.e k]
abbrev q0v.ps : List Par := [⟨t23, .rd⟩, ⟨(.int .i64), .rd⟩]
abbrev q0v.rs : List Res := [⟨(.int .i64), .ro, false⟩]
def q0v.H : q3q := [(2, [(0, .ro), (1, .ro), (5, .ro)])]
def q0v.F := q3t E q0v.C q0v.H Tryz.f135 q0v.ps q0v.rs
def q0v.L2 (k k1 : Nat) (x0 : List En) (x1 : Int) (x5 : Int) : Option (Int) := atL E q0v.C q0v.H Tryz.f135 q0v.ps q0v.rs [true, false, true, true] k [] k1 (sh 33 [(0, .d t23 x0 .ro), (1, .d (.int .i64) x1 .ro), (5, .d (.int .i64) x5 .ro)])
def q0v.f (k : Nat) (x0 : List En) (x1 : Int) : Option (Int) := q0v.F k (x0, x1)
theorem q0v.f_eq (k : Nat) (x0 : List En) (x1 : Int) : q0v.f k x0 x1 = q0v.L2 k k x0 x1 (0 : Int) := by kernel_rfl
theorem q0v.L2_eq (k k1 : Nat) (x0 : List En) (x1 : Int) (x5 : Int) : q0v.L2 k (k1 + 1) x0 x1 x5 = ifb (decide (x5 < (x0.length : Int))) (ifb (decide (0 ≤ x5) && decide (x5 < (x0.length : Int))) ((q0c.f k1 x1).bind fun (r0 : ByteArray) => ifb (!(((x0.getD x5.toNat zE).1).toList == r0.toList)) (some (-1 : Int)) (ifb (decide (0 ≤ x5) && decide (x5 < (x0.length : Int))) ((q0c.f k1 (w64 (x1 + 1))).bind fun (r1 : ByteArray) => ifb (!(((x0.getD x5.toNat zE).2).toList == r1.toList)) (some (-1 : Int)) (q0v.L2 k k1 x0 (w64 ((w64 (x1 + 1)) + 1)) (w64 (x5 + 1)))) (none))) (none)) (some x1) := by kernel_rfl
abbrev q0v.e (k : Nat) : FuncId × CE := (135, ⟨q0v.ps, q0v.rs, q0v.F k⟩)
theorem q0v.q (k : Nat) : Qs (q0v.e k) := qq (C := q0v.C) (fun k => .c (q0c.q k) <| .nil) k
def q0w.C (k : Nat) : CEs := [q0c.e k]
abbrev q0w.ps : List Par := [⟨t24, .rd⟩, ⟨(.int .i64), .rd⟩]
abbrev q0w.rs : List Res := [⟨(.int .i64), .ro, false⟩]
def q0w.H : q3q := [(2, [(0, .ro), (1, .ro), (5, .ro)])]
def q0w.F := q3t E q0w.C q0w.H Tryz.f136 q0w.ps q0w.rs
def q0w.L2 (k k1 : Nat) (x0 : List Aff) (x1 : Int) (x5 : Int) : Option (Int) := atL E q0w.C q0w.H Tryz.f136 q0w.ps q0w.rs [true, false, true, true] k [] k1 (sh 64 [(0, .d t24 x0 .ro), (1, .d (.int .i64) x1 .ro), (5, .d (.int .i64) x5 .ro)])
def q0w.f (k : Nat) (x0 : List Aff) (x1 : Int) : Option (Int) := q0w.F k (x0, x1)
theorem q0w.f_eq (k : Nat) (x0 : List Aff) (x1 : Int) : q0w.f k x0 x1 = q0w.L2 k k x0 x1 (0 : Int) := by kernel_rfl
theorem q0w.L2_eq (k k1 : Nat) (x0 : List Aff) (x1 : Int) (x5 : Int) : q0w.L2 k (k1 + 1) x0 x1 x5 = ifb (decide (x5 < (x0.length : Int))) (ifb (decide (0 ≤ x5) && decide (x5 < (x0.length : Int))) ((q0c.f k1 x1).bind fun (r0 : ByteArray) => ifb (!(((x0.getD x5.toNat zA).1).toList == r0.toList)) (some (-1 : Int)) (ifb (decide (0 ≤ x5) && decide (x5 < (x0.length : Int))) (ifb (decide ((3 : Int) ≠ 0)) (ifb (!(((x0.getD x5.toNat zA).2).1 == (((w64 (x1 + 1)).tmod (3 : Int)) == (0 : Int)))) (some (-1 : Int)) (ifb (decide (0 ≤ x5) && decide (x5 < (x0.length : Int))) ((q0c.f k1 (w64 ((w64 (x1 + 1)) + 1))).bind fun (r1 : ByteArray) => ifb (!(((((x0.getD x5.toNat zA).2).2).1).toList == r1.toList)) (some (-1 : Int)) (ifb (decide (0 ≤ x5) && decide (x5 < (x0.length : Int))) ((q0c.f k1 (w64 ((w64 ((w64 (x1 + 1)) + 1)) + 1))).bind fun (r2 : ByteArray) => ifb (!((((((x0.getD x5.toNat zA).2).2).2).1).toList == r2.toList)) (some (-1 : Int)) (ifb (decide (0 ≤ x5) && decide (x5 < (x0.length : Int))) ((q0c.f k1 (w64 ((w64 ((w64 ((w64 (x1 + 1)) + 1)) + 1)) + 1))).bind fun (r3 : ByteArray) => ifb (!((((((x0.getD x5.toNat zA).2).2).2).2).toList == r3.toList)) (some (-1 : Int)) (q0w.L2 k k1 x0 (w64 ((w64 ((w64 ((w64 ((w64 (x1 + 1)) + 1)) + 1)) + 1)) + 1)) (w64 (x5 + 1)))) (none))) (none))) (none))) (none)) (none))) (none)) (some x1) := by kernel_rfl
abbrev q0w.e (k : Nat) : FuncId × CE := (136, ⟨q0w.ps, q0w.rs, q0w.F k⟩)
theorem q0w.q (k : Nat) : Qs (q0w.e k) := qq (C := q0w.C) (fun k => .c (q0c.q k) <| .nil) k
end
end Go.Proofs.YtjfkeknnjjlepaaGreatDoor.Rf
end

section
namespace Go.Proofs.YtjfkeknnjjlepaaGreatDoor.Rf
open Go Go.RowKit
set_option linter.unusedVariables false
noncomputable section
def q2j.C (k : Nat) : CEs := [q0r.e k, q0v.e k, q0w.e k]
abbrev q2j.ps : List Par := [⟨t25, .rd⟩, ⟨(.int .i64), .rd⟩]
abbrev q2j.rs : List Res := [⟨(.int .i64), .ro, false⟩]
def q2j.F := q3t E q2j.C [] Tryz.f71 q2j.ps q2j.rs
def q2j.f (k : Nat) (x0 : Delta) (x1 : Int) : Option (Int) := q2j.F k (x0, x1)
theorem q2j.f_eq (k : Nat) (x0 : Delta) (x1 : Int) : q2j.f k x0 x1 = (q0r.f k x0.1 x1).bind fun (r0 : Int) => ifb (decide (r0 < 0)) (some (-1 : Int)) ((q0v.f k x0.2.1 r0).bind fun (r1 : Int) => ifb (decide (r1 < 0)) (some (-1 : Int)) ((q0w.f k x0.2.2.2 r1).bind fun (r2 : Int) => ifb (decide (r2 < 0)) (some (-1 : Int)) (some r2))) := by kernel_rfl
abbrev q2j.e (k : Nat) : FuncId × CE := (71, ⟨q2j.ps, q2j.rs, q2j.F k⟩)
theorem q2j.q (k : Nat) : Qs (q2j.e k) := qq (C := q2j.C) (fun k => .c (q0r.q k) <| .c (q0v.q k) <| .c (q0w.q k) <| .nil) k
def q25.C (k : Nat) : CEs := [q2j.e k]
abbrev q25.ps : List Par := [⟨t27, .rd⟩, ⟨(.int .i64), .rd⟩]
abbrev q25.rs : List Res := [⟨(.int .i64), .ro, false⟩]
def q25.F := q3t E q25.C [] Tryz.f21 q25.ps q25.rs
def q25.f (k : Nat) (x0 : Release) (x1 : Int) : Option (Int) := q25.F k (x0, x1)
theorem q25.f_eq (k : Nat) (x0 : Release) (x1 : Int) : q25.f k x0 x1 = (q2j.f k x0.2.1 x1).bind fun (r0 : Int) => ifb (decide (r0 < 0)) (some (-1 : Int)) (some r0) := by kernel_rfl
abbrev q25.e (k : Nat) : FuncId × CE := (21, ⟨q25.ps, q25.rs, q25.F k⟩)
theorem q25.q (k : Nat) : Qs (q25.e k) := qq (C := q25.C) (fun k => .c (q2j.q k) <| .nil) k
def q04.C (k : Nat) : CEs := [q1f.e k, q0l.e k, q2i.e k, q28.e k, q25.e k]
abbrev q04.ps : List Par := [⟨.str, .rd⟩]
abbrev q04.rs : List Res := [⟨.bool, .ro, false⟩]
def q04.H : q3q := [(7, [(0, .ro), (3, (.pr .ro (.pr (.pr (.own .ro) (.pr (.own .ro) (.pr .ro (.own .ro)))) .ro))), (4, .ro), (5, (.pr .ro (.pr (.pr (.own .ro) (.pr (.own .ro) (.pr .ro (.own .ro)))) .ro)))]), (16, [(3, (.pr .ro (.pr (.pr (.own .ro) (.pr (.own .ro) (.pr .ro (.own .ro)))) .ro))), (4, .ro), (5, (.pr .ro (.pr (.pr (.own .ro) (.pr (.own .ro) (.pr .ro (.own .ro)))) .ro))), (7, .ro), (9, (.pr .ro (.pr (.pr (.own .ro) (.pr (.own .ro) (.pr .ro (.own .ro)))) .ro))), (10, .ro)])]
def q04.F := q3t E q04.C q04.H Tryz.f3 q04.ps q04.rs
def q04.J7 (k : Nat) (x0 : ByteArray) (x3 : Release) (x4 : Bool) (x5 : Release) : Option (Bool) := atJ E q04.C q04.H Tryz.f3 q04.ps q04.rs [true, true, true, true, true] 0 [] k (sh 66 [(0, .d .str x0 .ro), (3, .box t27 x3 (.pr .ro (.pr (.pr (.own .ro) (.pr (.own .ro) (.pr .ro (.own .ro)))) .ro)) none), (4, .d .bool x4 .ro), (5, .box t27 x5 (.pr .ro (.pr (.pr (.own .ro) (.pr (.own .ro) (.pr .ro (.own .ro)))) .ro)) none)])
def q04.J16 (k : Nat) (x3 : Release) (x4 : Bool) (x5 : Release) (x7 : Int) (x9 : Release) (x10 : Bool) : Option (Bool) := atJ E q04.C q04.H Tryz.f3 q04.ps q04.rs [true, true, true, true, true, true, true, true, true, true, true, true] 0 [0] k (sh 66 [(3, .box t27 x3 (.pr .ro (.pr (.pr (.own .ro) (.pr (.own .ro) (.pr .ro (.own .ro)))) .ro)) none), (4, .d .bool x4 .ro), (5, .box t27 x5 (.pr .ro (.pr (.pr (.own .ro) (.pr (.own .ro) (.pr .ro (.own .ro)))) .ro)) none), (7, .d (.int .i64) x7 .ro), (9, .box t27 x9 (.pr .ro (.pr (.pr (.own .ro) (.pr (.own .ro) (.pr .ro (.own .ro)))) .ro)) none), (10, .d .bool x10 .ro)])
def q04.f (k : Nat) (x0 : ByteArray) : Option (Bool) := q04.F k x0
theorem q04.f_eq (k : Nat) (x0 : ByteArray) : q04.f k x0 = ifb (decide ((x0.size : Int) > (1048576 : Int))) (some true) ((q1f.f k x0).bind fun (r0 : Release × Bool) => (q0l.f k x0).bind fun (r1 : Release × Bool) => (q2i.f k r1.1 r0.1).bind fun (r2 : Bool) => ifb (!r2) (some false) (ifb (!(r1.2 == r0.2)) (some false) (q04.J7 k x0 r0.1 r0.2 r1.1))) := by kernel_rfl
theorem q04.J7_eq (k : Nat) (x0 : ByteArray) (x3 : Release) (x4 : Bool) (x5 : Release) : q04.J7 (k + 1) x0 x3 x4 x5 = (q28.f k x5 (1 : Int)).bind fun (r3 : Int × Release) => (q25.f k r3.2 (1 : Int)).bind fun (r4 : Int) => ifb (decide (r4 < 0)) (some false) (ifb (r4 != r3.1) (some false) ((q0l.f k x0).bind fun (r5 : Release × Bool) => q04.J16 k x3 x4 r3.2 r3.1 r5.1 r5.2)) := by kernel_rfl
theorem q04.J16_eq (k : Nat) (x3 : Release) (x4 : Bool) (x5 : Release) (x7 : Int) (x9 : Release) (x10 : Bool) : q04.J16 (k + 1) x3 x4 x5 x7 x9 x10 = (q2i.f k x9 x3).bind fun (r6 : Bool) => ifb (!r6) (some false) (ifb (!(x10 == x4)) (some false) ((q25.f k x5 (1 : Int)).bind fun (r7 : Int) => ifb (decide (r7 < 0)) (some false) (ifb (r7 != x7) (some false) (some true)))) := by kernel_rfl
abbrev q04.e (k : Nat) : FuncId × CE := (3, ⟨q04.ps, q04.rs, q04.F k⟩)
theorem q04.q (k : Nat) : Qs (q04.e k) := qq (C := q04.C) (fun k => .c (q1f.q k) <| .c (q0l.q k) <| .c (q2i.q k) <| .c (q28.q k) <| .c (q25.q k) <| .nil) k
end
end Go.Proofs.YtjfkeknnjjlepaaGreatDoor.Rf
end

section
/- The helpers of the laws: sizes, copies, equality, marks. -/
namespace Go.Proofs.YtjfkeknnjjlepaaGreatDoor.Rf
open Go Go.RowKit
set_option linter.unusedVariables false
set_option linter.unusedSimpArgs false
end Go.Proofs.YtjfkeknnjjlepaaGreatDoor.Rf
end

section
/- The helpers of the laws: copies, equality, marks. -/
namespace Go.Proofs.YtjfkeknnjjlepaaGreatDoor.Rf
open Go Go.RowKit
set_option linter.unusedVariables false
set_option linter.unusedSimpArgs false
theorem set_mid {α : Type} (a : List α) (x y : α) (t : List α) : (a ++ x :: t).set a.length y = a ++ y :: t := by
  rw [List.set_append_right _ _ (Nat.le_refl _), Nat.sub_self]; rfl
theorem q7b {α : Type} (a : List α) (x : α) (t : List α) (z : α) : (a ++ x :: t).getD a.length z = x := by
  rw [List.getD_eq_getElem?_getD, List.getElem?_append_right (Nat.le_refl _), Nat.sub_self]; rfl
theorem qhw (n : Nat) : (((n : Int) != (n : Int))) = false := by simp
theorem qgl (k : Nat) (a : Aff) : q3a.f k a a = some true := by
  simp [q3a.f_eq, q0e]
theorem qgm (k : Nat) (a : En) : q39.f k a a = some true := by
  simp [q39.f_eq, q0e]
theorem qel (l : List Aff) (hl : Sm l.length) : Al fun k => q1h.f k l l = some true := by
  have key := qav (Q := fun i => Al2 fun k k1 => q1h.L4 k k1 l l (i : Int) = some true) l.length
    (Al2.succ (Al2.now fun k k1 => by simp only [q1h.L4_eq, at_end (Nat.lt_irrefl _), q0e])) (fun i hi h => by
      obtain ⟨c1, c2, c3, c4⟩ := q5y hi hl
      refine Al2.succ (h.mono fun k k1 e => ?_)
      simp only [q1h.L4_eq, c1, c2, c3, w64, c4, Bool.and_self, q07, qgl, Option.bind_some, Bool.not_true, q0e, e]) 0 (Nat.zero_le _)
  exact key.diag.mono fun k e => by rw [q1h.f_eq, qhw, q0e]; exact e
theorem qem (l : List En) (hl : Sm l.length) : Al fun k => q1g.f k l l = some true := by
  have key := qav (Q := fun i => Al2 fun k k1 => q1g.L4 k k1 l l (i : Int) = some true) l.length
    (Al2.succ (Al2.now fun k k1 => by simp only [q1g.L4_eq, at_end (Nat.lt_irrefl _), q0e])) (fun i hi h => by
      obtain ⟨c1, c2, c3, c4⟩ := q5y hi hl
      refine Al2.succ (h.mono fun k k1 e => ?_)
      simp only [q1g.L4_eq, c1, c2, c3, w64, c4, Bool.and_self, q07, qgm, Option.bind_some, Bool.not_true, q0e, e]) 0 (Nat.zero_le _)
  exact key.diag.mono fun k e => by rw [q1g.f_eq, qhw, q0e]; exact e
theorem qcu (l : List ByteArray) (hl : Sm l.length) : Al fun k => q18.f k l l = some true := by
  have key := qav (Q := fun i => Al2 fun k k1 => q18.L4 k k1 l l (i : Int) = some true) l.length
    (Al2.succ (Al2.now fun k k1 => by simp only [q18.L4_eq, at_end (Nat.lt_irrefl _), q0e])) (fun i hi h => by
      obtain ⟨c1, c2, c3, c4⟩ := q5y hi hl
      refine Al2.succ (h.mono fun k k1 e => ?_)
      simp only [q18.L4_eq, c1, c2, c3, w64, c4, Bool.and_self, q07, beq_self_eq_true, Bool.not_true, q0e, e]) 0 (Nat.zero_le _)
  exact key.diag.mono fun k e => by rw [q18.f_eq, qhw, q0e]; exact e
theorem qgn (d : Delta) (h1 : Sm d.1.length) (h2 : Sm d.2.1.length) (h3 : Sm d.2.2.2.length) : Al fun k => q3b.f k d d = some true :=
  (((qcu d.1 h1).and (qem d.2.1 h2)).and (qel d.2.2.2 h3)).mono fun k ⟨⟨e1, e2⟩, e3⟩ => by
    simp only [q3b.f_eq, e1, e2, e3, Option.bind_some, Bool.not_true, q0e, beq_self_eq_true]
theorem qk2 (l : List Int) : (strOf l).size = l.length := by simp [strOf, ByteArray.size]
theorem qhx (n : Nat) (hn : n ≤ 4611686018427387904) : ∃ t, Al fun k => q0c.f k (n : Int) = some t := by
  by_cases h0 : n = 0
  · subst h0
    exact ⟨_, Al.now fun k => by rw [q0c.f_eq]; exact q07 _ _⟩
  · have key : ∀ (m : Nat) (n : Nat) (acc : ByteArray), n < 10 ^ m → n ≤ 4611686018427387904 → acc.size + m ≤ 30 → ∃ t, Al2 fun k k1 => q0c.L4 k k1 (n : Int) acc = some t := by
      intro m
      induction m with
      | zero =>
        intro n acc h1 h2 h3
        have : n = 0 := by simpa using h1
        subst this
        have e : q4m ((⟨#[109]⟩ : ByteArray).size + acc.size) = true := q3j (by
          have : (⟨#[109]⟩ : ByteArray).size = 1 := rfl
          rw [this]; omega)
        exact ⟨_, Al2.succ (Al2.now fun k k1 => by rw [q0c.L4_eq, show decide (((0 : Nat) : Int) > 0) = false from rfl, q0e, e, q07])⟩
      | succ m ih =>
        intro n acc h1 h2 h3
        by_cases hz : n = 0
        · subst hz
          have e : q4m ((⟨#[109]⟩ : ByteArray).size + acc.size) = true := q3j (by
            have : (⟨#[109]⟩ : ByteArray).size = 1 := rfl
            rw [this]; omega)
          exact ⟨_, Al2.succ (Al2.now fun k k1 => by rw [q0c.L4_eq, show decide (((0 : Nat) : Int) > 0) = false from rfl, q0e, e, q07])⟩
        · have hs : (strOf [(IntKind.u8.wrap (w64 ((48 : Int) + ((n : Int).tmod (10 : Int)))))]).size = 1 := qk2 _
          obtain ⟨t, ht⟩ := ih (n / 10) (strOf [(IntKind.u8.wrap (w64 ((48 : Int) + ((n : Int).tmod (10 : Int)))))] ++ acc) (by rw [Nat.pow_succ] at h1; omega) (by omega) (by rw [ByteArray.size_append, hs]; omega)
          refine ⟨t, Al2.succ (ht.mono fun k k1 e => ?_)⟩
          have e1 : decide ((n : Int) > 0) = true := decide_eq_true (by omega)
          have e2 : q4m ((strOf [(IntKind.u8.wrap (w64 ((48 : Int) + ((n : Int).tmod (10 : Int)))))]).size + acc.size) = true := q3j (by
            rw [hs]; omega)
          have e3 : w64 ((n : Int).tdiv 10) = ((n / 10 : Nat) : Int) := by
            rw [show (n : Int).tdiv 10 = ((n / 10 : Nat) : Int) from rfl, w64, q5i (by omega) (by omega)]
          rw [q0c.L4_eq, e1, q07, show decide ((10 : Int) ≠ 0) = true from rfl, q07, e2, q07, q07, e3, e]
    obtain ⟨t, ht⟩ := key 19 n bz (by omega) hn (by decide)
    refine ⟨t, ht.diag.mono fun k e => ?_⟩
    rw [q0c.f_eq, decide_eq_false (by omega), q0e]
    exact e
noncomputable def mT (n : Nat) : ByteArray := open Classical in if h : ∃ t, Al fun k => q0c.f k (n : Int) = some t then h.choose else bz
theorem q3v (n : Nat) (hn : n ≤ 4611686018427387904) : Al fun k => q0c.f k (n : Int) = some (mT n) := by
  have h := qhx n hn
  unfold mT
  rw [dif_pos h]
  exact h.choose_spec
theorem q5v (m : Nat) (h : m ≤ 4611686018427387904) : w64 ((m : Int) + 1) = ((m + 1 : Nat) : Int) := by rw [w64, q5i (by omega) (by omega)]; omega
noncomputable def mkE : Nat → Nat → List En
  | 0, _ => []
  | n + 1, m => (mT m, mT (m + 1)) :: mkE n (m + 2)
noncomputable def mkA : Nat → Nat → List Aff
  | 0, _ => []
  | n + 1, m => (mT m, (((m + 1 : Nat) : Int).tmod 3 == 0), mT (m + 2), mT (m + 3), mT (m + 4)) :: mkA n (m + 5)
noncomputable def mkS : Nat → Nat → List ByteArray
  | 0, _ => []
  | n + 1, m => mT m :: mkS n (m + 1)
theorem q8l : ∀ (t a : List ByteArray) (m : Nat), a.length + t.length ≤ 1099511627776 → m + t.length ≤ 1099511627776 → Al2 fun k k1 => q0q.L2 k k1 (a ++ t) (m : Int) (a.length : Int) = some (((m + t.length : Nat) : Int), a ++ mkS t.length m)
  | [], a, m, h1, h2 => Al2.succ (Al2.now fun k k1 => by
    simp only [q0q.L2_eq, List.append_nil, at_end (Nat.lt_irrefl _), q0e, List.length_nil, Nat.add_zero, mkS])
  | x :: t, a, m, h1, h2 => by
    rw [List.length_cons] at h1 h2
    have hi : a.length < (a ++ x :: t).length := by simp
    obtain ⟨c1, c2, c3, c4⟩ := q5y hi (by simp only [List.length_append, List.length_cons]; omega)
    have ih := q8l t (a ++ [mT m]) (m + 1) (by rw [List.length_append]; simp; omega) (by omega)
    refine Al2.succ (((q3v m (by omega)).snd.and ih).mono fun k k1 ⟨e1, e2⟩ => ?_)
    simp only [q0q.L2_eq, c1, c2, c3, Bool.and_self, q07, e1, Option.bind_some, set_mid, q5v m (by omega)]
    simp only [w64, c4]
    rw [show a ++ mT m :: t = a ++ [mT m] ++ t by simp, show ((a.length + 1 : Nat) : Int) = ((a ++ [mT m]).length : Int) by simp, e2]
    simp only [List.length_cons, mkS, List.append_assoc, List.cons_append, List.nil_append]
    rw [show m + 1 + t.length = m + (t.length + 1) by omega]
theorem q9k : ∀ (t a : List En) (m : Nat), a.length + t.length ≤ 1099511627776 → m + 2 * t.length ≤ 1099511627776 → Al2 fun k k1 => q0h.L2 k k1 (a ++ t) (m : Int) (a.length : Int) = some (((m + 2 * t.length : Nat) : Int), a ++ mkE t.length m)
  | [], a, m, h1, h2 => Al2.succ (Al2.now fun k k1 => by
    simp only [q0h.L2_eq, List.append_nil, at_end (Nat.lt_irrefl _), q0e, List.length_nil, Nat.mul_zero, Nat.add_zero, mkE])
  | x :: t, a, m, h1, h2 => by
    rw [List.length_cons] at h1 h2
    have hi : a.length < (a ++ x :: t).length := by simp
    obtain ⟨c1, c2, c3, c4⟩ := q5y hi (by simp only [List.length_append, List.length_cons]; omega)
    have hi2 : decide ((a.length : Int) < ((a ++ (mT m, x.2) :: t).length : Int)) = true := decide_eq_true (by simp only [List.length_append, List.length_cons]; omega)
    have ih := q9k t (a ++ [(mT m, mT (m + 1))]) (m + 2) (by rw [List.length_append]; simp; omega) (by omega)
    have j7 : Al3 fun k k1 k2 => q0h.J7 k k1 k2 (a ++ (mT m, mT (m + 1)) :: t) ((m + 1 : Nat) : Int) (a.length : Int) = some (((m + 2 * (x :: t).length : Nat) : Int), a ++ mkE (x :: t).length m) := Al3.succ (ih.fst.mono fun k k1 k2 e => by
      simp only [q0h.J7_eq, q5v (m + 1) (by omega)]
      simp only [w64, c4]
      rw [show a ++ (mT m, mT (m + 1)) :: t = a ++ [(mT m, mT (m + 1))] ++ t by simp, show ((a.length + 1 : Nat) : Int) = ((a ++ [(mT m, mT (m + 1))]).length : Int) by simp, e]
      simp only [List.length_cons, mkE, List.append_assoc, List.cons_append, List.nil_append]
      rw [show m + 2 + 2 * t.length = m + 2 * (t.length + 1) by omega])
    refine Al2.succ ((((q3v m (by omega)).snd.and (q3v (m + 1) (by omega)).snd).and j7.in2).mono fun k k1 ⟨⟨e1, e2⟩, e3⟩ => ?_)
    simp only [q0h.L2_eq, c1, c2, c3, Bool.and_self, q07, e1, Option.bind_some, set_mid, q7b, q5v m (by omega), e2, hi2, e3]
theorem q9l : ∀ (t a : List Aff) (m : Nat), a.length + t.length ≤ 1099511627776 → m + 5 * t.length ≤ 1099511627776 → Al2 fun k k1 => q0b.L2 k k1 (a ++ t) (m : Int) (a.length : Int) = some (((m + 5 * t.length : Nat) : Int), a ++ mkA t.length m)
  | [], a, m, h1, h2 => Al2.succ (Al2.now fun k k1 => by
    simp only [q0b.L2_eq, List.append_nil, at_end (Nat.lt_irrefl _), q0e, List.length_nil, Nat.mul_zero, Nat.add_zero, mkA])
  | x :: t, a, m, h1, h2 => by
    rw [List.length_cons] at h1 h2
    have hi : a.length < (a ++ x :: t).length := by simp
    have hS : (a ++ x :: t).length ≤ 4611686018427387904 := by simp only [List.length_append, List.length_cons]; omega
    obtain ⟨c1, c2, c3, c4⟩ := q5y hi hS
    have lt : ∀ y : Aff, decide ((a.length : Int) < ((a ++ y :: t).length : Int)) = true := fun y => decide_eq_true (by simp only [List.length_append, List.length_cons]; omega)
    let y : Aff := (mT m, (((m + 1 : Nat) : Int).tmod 3 == 0), mT (m + 2), mT (m + 3), mT (m + 4))
    have ih := q9l t (a ++ [y]) (m + 5) (by rw [List.length_append]; simp; omega) (by omega)
    have fin : ((m + 5 + 5 * t.length : Nat) : Int) = ((m + 5 * (x :: t).length : Nat) : Int) := by simp only [List.length_cons]; omega
    have j11 : Al3 fun k k1 k2 => q0b.J11 k k1 k2 (a ++ (mT m, (((m + 1 : Nat) : Int).tmod 3 == 0), mT (m + 2), mT (m + 3), x.2.2.2.2) :: t) ((m + 3 : Nat) : Int) (a.length : Int) = some (((m + 5 * (x :: t).length : Nat) : Int), a ++ mkA (x :: t).length m) := Al3.succ ((ih.fst.and (q3v (m + 4) (by omega)).thd).mono fun k k1 k2 ⟨e, e1⟩ => by
      simp only [q0b.J11_eq, q5v (m + 3) (by omega), q5v (m + 3 + 1) (by omega), e1, Option.bind_some, c2, c3, lt, Bool.and_self, q07, set_mid, q7b]
      simp only [w64, c4]
      rw [show a ++ (mT m, (((m + 1 : Nat) : Int).tmod 3 == 0), mT (m + 2), mT (m + 3), mT (m + 4)) :: t = a ++ [y] ++ t by simp [y], show ((a.length + 1 : Nat) : Int) = ((a ++ [y]).length : Int) by simp, show m + 3 + 1 + 1 = m + 5 by omega, e, fin]
      simp only [List.length_cons, mkA, List.append_assoc, List.cons_append, List.nil_append]
      rfl)
    have j7 : Al3 fun k k1 k2 => q0b.J7 k k1 k2 (a ++ (mT m, (((m + 1 : Nat) : Int).tmod 3 == 0), x.2.2) :: t) ((m + 1 : Nat) : Int) (a.length : Int) = some (((m + 5 * (x :: t).length : Nat) : Int), a ++ mkA (x :: t).length m) := Al3.succ (((j11.and (q3v (m + 2) (by omega)).thd).and (q3v (m + 3) (by omega)).thd).mono fun k k1 k2 ⟨⟨e, e1⟩, e2⟩ => by
      simp only [q0b.J7_eq, q5v (m + 1) (by omega), q5v (m + 1 + 1) (by omega), show m + 1 + 1 = m + 2 from rfl, show m + 2 + 1 = m + 3 from rfl, e1, e2, Option.bind_some, c2, c3, lt, Bool.and_self, q07, set_mid, q7b]
      exact e)
    refine Al2.succ (((q3v m (by omega)).snd.and j7.in2).mono fun k k1 ⟨e1, e3⟩ => ?_)
    simp only [q0b.L2_eq, c1, c2, c3, Bool.and_self, q07, e1, Option.bind_some, set_mid, q7b, q5v m (by omega), lt, show decide ((3 : Int) ≠ 0) = true from rfl]
    exact e3
theorem qdf : ∀ (n m : Nat), (mkA n m).length = n
  | 0, _ => rfl
  | n + 1, m => by rw [mkA, List.length_cons, qdf]
theorem qdg : ∀ (n m : Nat), (mkE n m).length = n
  | 0, _ => rfl
  | n + 1, m => by rw [mkE, List.length_cons, qdg]
theorem q9m : ∀ (n : Nat) (a : List En) (m : Nat), a.length + n ≤ 1099511627776 → m + 2 * n ≤ 1099511627776 → Al2 fun k k1 => q0v.L2 k k1 (a ++ mkE n m) (m : Int) (a.length : Int) = some ((m + 2 * n : Nat) : Int)
  | 0, a, m, h1, h2 => Al2.succ (Al2.now fun k k1 => by
    simp only [q0v.L2_eq, mkE, List.append_nil, at_end (Nat.lt_irrefl _), q0e, Nat.mul_zero, Nat.add_zero])
  | n + 1, a, m, h1, h2 => by
    have hi : a.length < (a ++ mkE (n + 1) m).length := by simp [mkE]
    obtain ⟨c1, c2, c3, c4⟩ := q5y hi (by simp only [List.length_append, qdg]; omega)
    have ih := q9m n (a ++ [(mT m, mT (m + 1))]) (m + 2) (by rw [List.length_append]; simp; omega) (by omega)
    refine Al2.succ ((((q3v m (by omega)).snd.and (q3v (m + 1) (by omega)).snd).and ih).mono fun k k1 ⟨⟨e1, e2⟩, e3⟩ => ?_)
    simp only [q0v.L2_eq, c1, c2, c3, Bool.and_self, q07, e1, Option.bind_some, q5v m (by omega), q5v (m + 1) (by omega), e2]
    simp only [mkE, q7b, beq_self_eq_true, Bool.not_true, q0e]
    simp only [w64, c4]
    rw [show a ++ (mT m, mT (m + 1)) :: mkE n (m + 2) = a ++ [(mT m, mT (m + 1))] ++ mkE n (m + 2) by simp, show ((a.length + 1 : Nat) : Int) = ((a ++ [(mT m, mT (m + 1))]).length : Int) by simp, show m + 1 + 1 = m + 2 from rfl, e3]
    rw [show m + 2 + 2 * n = m + 2 * (n + 1) by omega]
theorem q9n : ∀ (n : Nat) (a : List Aff) (m : Nat), a.length + n ≤ 1099511627776 → m + 5 * n ≤ 1099511627776 → Al2 fun k k1 => q0w.L2 k k1 (a ++ mkA n m) (m : Int) (a.length : Int) = some ((m + 5 * n : Nat) : Int)
  | 0, a, m, h1, h2 => Al2.succ (Al2.now fun k k1 => by
    simp only [q0w.L2_eq, mkA, List.append_nil, at_end (Nat.lt_irrefl _), q0e, Nat.mul_zero, Nat.add_zero])
  | n + 1, a, m, h1, h2 => by
    have hi : a.length < (a ++ mkA (n + 1) m).length := by simp [mkA]
    obtain ⟨c1, c2, c3, c4⟩ := q5y hi (by simp only [List.length_append, qdf]; omega)
    have ih := q9n n (a ++ [(mT m, (((m + 1 : Nat) : Int).tmod 3 == 0), mT (m + 2), mT (m + 3), mT (m + 4))]) (m + 5) (by rw [List.length_append]; simp; omega) (by omega)
    refine Al2.succ ((((q3v m (by omega)).snd.and (q3v (m + 2) (by omega)).snd).and (((q3v (m + 3) (by omega)).snd.and (q3v (m + 4) (by omega)).snd).and ih)).mono fun k k1 ⟨⟨e1, e2⟩, ⟨e3, e4⟩, e5⟩ => ?_)
    simp only [q0w.L2_eq, c1, c2, c3, Bool.and_self, q07, e1, Option.bind_some, q5v m (by omega), q5v (m + 1) (by omega), show m + 1 + 1 = m + 2 from rfl, q5v (m + 2) (by omega), show m + 2 + 1 = m + 3 from rfl, q5v (m + 3) (by omega), show m + 3 + 1 = m + 4 from rfl, q5v (m + 4) (by omega), show m + 4 + 1 = m + 5 from rfl, e2, e3, e4, show decide ((3 : Int) ≠ 0) = true from rfl]
    simp only [mkA, q7b, beq_self_eq_true, Bool.not_true, q0e]
    simp only [w64, c4]
    rw [show a ++ (mT m, (((m + 1 : Nat) : Int).tmod 3 == 0), mT (m + 2), mT (m + 3), mT (m + 4)) :: mkA n (m + 5) = a ++ [(mT m, (((m + 1 : Nat) : Int).tmod 3 == 0), mT (m + 2), mT (m + 3), mT (m + 4))] ++ mkA n (m + 5) by simp, show ((a.length + 1 : Nat) : Int) = ((a ++ [((mT m, (((m + 1 : Nat) : Int).tmod 3 == 0), mT (m + 2), mT (m + 3), mT (m + 4)) : Aff)]).length : Int) by simp, e5]
    rw [show m + 5 + 5 * n = m + 5 * (n + 1) by omega]
end Go.Proofs.YtjfkeknnjjlepaaGreatDoor.Rf
end

section
/- What an argument of the laws is good for. -/
namespace Go.Proofs.YtjfkeknnjjlepaaGreatDoor.Rf
open Go Go.RowKit
set_option linter.unusedVariables false
set_option linter.unusedSimpArgs false
end Go.Proofs.YtjfkeknnjjlepaaGreatDoor.Rf
end

section
/- Marks in a delta, and that they are found again. -/
namespace Go.Proofs.YtjfkeknnjjlepaaGreatDoor.Rf
open Go Go.RowKit
set_option linter.unusedVariables false
set_option linter.unusedSimpArgs false
theorem qdh : ∀ (n m : Nat), (mkS n m).length = n
  | 0, _ => rfl
  | n + 1, m => by rw [mkS, List.length_cons, qdh]
theorem q8m : ∀ (n : Nat) (a : List ByteArray) (m : Nat), a.length + n ≤ 1099511627776 → m + n ≤ 1099511627776 → Al2 fun k k1 => q0r.L2 k k1 (a ++ mkS n m) (m : Int) (a.length : Int) = some ((m + n : Nat) : Int)
  | 0, a, m, h1, h2 => Al2.succ (Al2.now fun k k1 => by
    simp only [q0r.L2_eq, mkS, List.append_nil, at_end (Nat.lt_irrefl _), q0e, Nat.add_zero])
  | n + 1, a, m, h1, h2 => by
    have hi : a.length < (a ++ mkS (n + 1) m).length := by simp [mkS]
    obtain ⟨c1, c2, c3, c4⟩ := q5y hi (by simp only [List.length_append, qdh]; omega)
    have ih := q8m n (a ++ [mT m]) (m + 1) (by rw [List.length_append]; simp; omega) (by omega)
    refine Al2.succ (((q3v m (by omega)).snd.and ih).mono fun k k1 ⟨e1, e3⟩ => ?_)
    simp only [q0r.L2_eq, c1, c2, c3, Bool.and_self, q07, e1, Option.bind_some, q5v m (by omega)]
    simp only [mkS, q7b, beq_self_eq_true, Bool.not_true, q0e]
    simp only [w64, c4]
    rw [show a ++ mT m :: mkS n (m + 1) = a ++ [mT m] ++ mkS n (m + 1) by simp, show ((a.length + 1 : Nat) : Int) = ((a ++ [mT m]).length : Int) by simp, e3]
    rw [show m + 1 + n = m + (n + 1) by omega]
noncomputable def qs4 (d : Delta) (m : Nat) : Delta := (mkS d.1.length m, mkE d.2.1.length (m + d.1.length), d.2.2.1, mkA d.2.2.2.length (m + d.1.length + 2 * d.2.1.length))
theorem qen (d : Delta) (m : Nat) (h1 : d.1.length ≤ 1000000000) (h2 : d.2.1.length ≤ 1000000000) (h3 : d.2.2.2.length ≤ 1000000000) (hm : m ≤ 100000000000) : Al fun k => q2r.f k d (m : Int) = some (((m + d.1.length + 2 * d.2.1.length + 5 * d.2.2.2.length : Nat) : Int), qs4 d m) :=
  (((q8l d.1 [] m (by simp; omega) (by omega)).diag.and (q9k d.2.1 [] (m + d.1.length) (by simp; omega) (by omega)).diag).and (q9l d.2.2.2 [] (m + d.1.length + 2 * d.2.1.length) (by simp; omega) (by omega)).diag).mono fun k ⟨⟨e0, e1⟩, e2⟩ => by
    simp only [List.nil_append, List.length_nil] at e0 e1 e2
    simp only [q2r.f_eq, q0b.f_eq, q0h.f_eq, q0q.f_eq]
    rw [show (0 : Int) = ((0 : Nat) : Int) from rfl, e0, Option.bind_some, e1, Option.bind_some, e2]
    rfl
theorem qgo (d : Delta) (m : Nat) (h1 : d.1.length ≤ 1000000000) (h2 : d.2.1.length ≤ 1000000000) (h3 : d.2.2.2.length ≤ 1000000000) (hm : m ≤ 100000000000) : Al fun k => q2j.f k (qs4 d m) (m : Int) = some ((m + d.1.length + 2 * d.2.1.length + 5 * d.2.2.2.length : Nat) : Int) :=
  (((q8m d.1.length [] m (by simp; omega) (by omega)).diag.and (q9m d.2.1.length [] (m + d.1.length) (by simp; omega) (by omega)).diag).and (q9n d.2.2.2.length [] (m + d.1.length + 2 * d.2.1.length) (by simp; omega) (by omega)).diag).mono fun k ⟨⟨e0, e1⟩, e2⟩ => by
    simp only [List.nil_append, List.length_nil] at e0 e1 e2
    simp only [q2j.f_eq, q0w.f_eq, q0v.f_eq, q0r.f_eq, qs4]
    rw [show (0 : Int) = ((0 : Nat) : Int) from rfl, e0, Option.bind_some, decide_eq_false (by omega), q0e, e1, Option.bind_some, decide_eq_false (by omega), q0e, e2, Option.bind_some, decide_eq_false (by omega), q0e]
end Go.Proofs.YtjfkeknnjjlepaaGreatDoor.Rf
end

section
/- The laws' words on releases: sizes, copies, equals, marks. -/
namespace Go.Proofs.YtjfkeknnjjlepaaGreatDoor.Rf
open Go Go.RowKit
set_option linter.unusedVariables false
set_option linter.unusedSimpArgs false
def lnD (d : Delta) : Prop := d.1.length ≤ 1048576 ∧ d.2.1.length ≤ 1048576 ∧ d.2.2.2.length ≤ 1048576
theorem qs5 {d : Delta} (h : q47 d = true) : lnD d := by have := qlq h; unfold lnD; omega
theorem qcv (r : Release) (h : lnD r.2.1) : Al fun k => q2i.f k r r = some true := by
  unfold lnD at h
  refine (qgn r.2.1 (by unfold Sm; omega) (by unfold Sm; omega) (by unfold Sm; omega)).mono fun k e => ?_
  simp only [q2i.f_eq, bne_self_eq_false, q0e, e, Option.bind_some, Bool.not_true, beq_self_eq_true]
def nD (d : Delta) : Nat := d.1.length + 2 * d.2.1.length + 5 * d.2.2.2.length
noncomputable def qt2 (r : Release) (m : Nat) : Release := (r.1, qs4 r.2.1 m, r.2.2)
theorem qcw (r : Release) (m : Nat) (h : lnD r.2.1) (hm : m ≤ 100000000000) : Al fun k => q28.f k r (m : Int) = some (((m + nD r.2.1 : Nat) : Int), qt2 r m) := by
  unfold lnD at h
  refine (qen r.2.1 m (by omega) (by omega) (by omega) hm).mono fun k e => ?_
  rw [q28.f_eq, e, Option.bind_some]
  simp only [nD, ← Nat.add_assoc]
  rfl
theorem qcx (r : Release) (m : Nat) (h : lnD r.2.1) (hm : m ≤ 100000000000) : Al fun k => q25.f k (qt2 r m) (m : Int) = some ((m + nD r.2.1 : Nat) : Int) := by
  unfold lnD at h
  refine (qgo r.2.1 m (by omega) (by omega) (by omega) hm).mono fun k e => ?_
  rw [q25.f_eq]
  show (q2j.f k (qs4 r.2.1 m) (m : Int)).bind _ = _
  rw [e, Option.bind_some, decide_eq_false (by omega), q0e]
  simp only [nD, ← Nat.add_assoc]
end Go.Proofs.YtjfkeknnjjlepaaGreatDoor.Rf
end

section
/- The law FnExactReleaseGet is true. -/
namespace Go.Proofs.YtjfkeknnjjlepaaGreatDoor.Rf
open Go Go.RowKit
set_option linter.unusedVariables false
set_option linter.unusedSimpArgs false
theorem qmj (x : ByteArray) : lnD (q53 x).1.2.1 := by
  cases h : (q53 x).2 with
  | true => exact qs5 (q7w (qhv h).1).2.1
  | false => rw [qme h]; simp [lnD, zR]
theorem q7o (x : ByteArray) (hx : qau .str x) : ∃ k, q04.f k x = some true := by
  by_cases h1 : x.size ≤ 1048576
  case neg => exact ⟨0, by rw [q04.f_eq, decide_eq_true (by omega), q07]⟩
  have hK : decide ((x.size : Int) > 1048576) = false := decide_eq_false (by omega)
  have lr := qmj x
  have hI := q5c x (by omega)
  have hS := q6f x (by omega)
  have hE := qcv (q53 x).1 lr
  have hM := qcw (q53 x).1 1 lr (by omega)
  have hH := qcx (q53 x).1 1 lr (by omega)
  have j16 : Al fun k => q04.J16 k (q53 x).1 (q53 x).2 (qt2 (q53 x).1 1) ((1 + nD (q53 x).1.2.1 : Nat) : Int) (q53 x).1 (q53 x).2 = some true :=
    Al.succ ((hE.and hH).mono fun k ⟨e, e2⟩ => by
      rw [show ((1 : Nat) : Int) = 1 from rfl] at e2
      rw [q04.J16_eq, e, Option.bind_some, Bool.not_true, q0e, beq_self_eq_true, Bool.not_true, q0e, e2, Option.bind_some, decide_eq_false (by omega), q0e, bne_self_eq_false, q0e])
  have j7 : Al fun k => q04.J7 k x (q53 x).1 (q53 x).2 (q53 x).1 = some true :=
    Al.succ (((hM.and hH).and (hI.and j16)).mono fun k ⟨⟨e, e2⟩, e3, e4⟩ => by
      rw [show ((1 : Nat) : Int) = 1 from rfl] at e e2
      rw [q04.J7_eq, e, Option.bind_some]
      dsimp only
      rw [e2, Option.bind_some, decide_eq_false (by omega), q0e, bne_self_eq_false, q0e, e3, Option.bind_some, e4])
  refine ((hS.and hI).and (hE.and j7)).mono (fun k ⟨⟨e, e2⟩, e3, e4⟩ => ?_) |>.get
  rw [q04.f_eq, hK, q0e, e, Option.bind_some, e2, Option.bind_some, e3, Option.bind_some, Bool.not_true, q0e, beq_self_eq_true, Bool.not_true, q0e, e4]
end Go.Proofs.YtjfkeknnjjlepaaGreatDoor.Rf
end

section
/- 'FnExactReleaseGet': for every input it returns true and its arguments read as before. Conditions: those of the given row alone (the listed package variables as the program's text lays them). -/
namespace Go.Proofs.YtjfkeknnjjlepaaGreatDoor.fnExactReleaseGet
open Go.ChangeShapes Go.WideShapes Go.ChangeAt Go.RowKit
open Go.Proofs.YtjfkeknnjjlepaaGreatDoor.Rf Go.Proofs.YtjfkeknnjjlepaaGreatDoor.Frame
set_option linter.unusedVariables false
theorem own : ownKnob Tryz.prog.godebug = none := by kernel_rfl
set_option maxRecDepth 100000 in
theorem kLa : laidOutB Tryz.prog = true := by kernel_rfl
set_option maxRecDepth 100000 in
theorem kMr : mapsRowed Tryz.prog = true := by kernel_rfl
set_option maxRecDepth 100000 in
theorem kPk : (Rows.fnExactReleaseGetRow.plainKeys == Tryz.prog.plainKeys) = true := by kernel_rfl
set_option maxRecDepth 100000 in
theorem kSh : Tryz.prog.stopsHeard = true := by kernel_rfl
set_option maxRecDepth 100000 in
theorem kMe : Tryz.prog.mayEnter = true := by kernel_rfl
set_option maxRecDepth 100000 in
theorem kLi : (Rows.fnExactReleaseGetRow.lifted == Tryz.prog.liftsFinal) = true := by kernel_rfl
set_option maxRecDepth 100000 in
theorem kMk : (Tryz.prog.make == some Rows.fnExactReleaseGetRow.make) = true := by kernel_rfl
theorem laidOut : laidOutB Tryz.prog = true := kLa
set_option maxRecDepth 100000 in
theorem contract (H : Type) (enc : TypeId × Value → H) (W : World) (base : Nat) (args : Array Value) (ds gs : List (DataW H)) (before : List MemPlace)
    (hval0 : ∀ (j : Nat) t v, Tryz.f3.params[j]? = some t → args[j]? = some v → Value.okWide Tryz.prog W .any base t v)
    (hW : DataW.Whole enc Tryz.prog Tryz.f3.params.toList Rows.fnExactReleaseGetSpec.vars false W args.toList ds gs before)
    (hsz0 : (DataW.weightsEach Tryz.prog (Tryz.f3.params.toList ++ (OpenSpec.ofChange Rows.fnExactReleaseGetSpec).bare.plain.varTypes Tryz.prog) (ds ++ gs)).all (· ≤ reachBytes) = true)
    (hL : laidMetH Tryz.prog Rows.fnExactReleaseGetRow.laid W) (hsh : W.ShapedOpen Tryz.prog) :
    Calls Tryz.prog 3 args W fun e W' => ∃ v, e = .returned v ∧ Rows.fnExactReleaseGetSpec.post enc Tryz.prog Tryz.f3 false true false false W args v W' := by
  have hGm : ∃ x : Int, W.cell? ⟨3, 0, none⟩ = some (.int .i64 x) := Go.Proofs.cell_of_shapedOpen_int (zero := #[.int .i64 0]) (t := 3) hsh (of_decide_eq_true (by kernel_rfl)) (by kernel_rfl) rfl (by kernel_rfl) (by kernel_rfl) Tryz.underlying3
  have hGp : Lib.TabIs Tryz.prog W "internal/strconv.uint64pow10" .u64 Lib.pow10Tab := qar (show Tryz.prog.globalNamed "internal/strconv.uint64pow10" = some 6 by kernel_rfl) (show (Tryz.prog.globals[6]?).map (·.type) = some 276 by kernel_rfl) Tryz.underlying276 Tryz.underlying194 (by kernel_rfl) (by kernel_rfl) hL (by rw [show Lib.tabData .u64 Lib.pow10Tab = Rows.laid_internal_strconv_uint64pow10 from by kernel_rfl]; simp [Rows.fnExactReleaseGetRow])
  have hGe := q6g (show Tryz.prog.globalNamed "strconv.ErrSyntax" = some 1 by kernel_rfl) (show (Tryz.prog.globals[1]?).map (·.type) = some 90 by kernel_rfl) Tryz.underlying90 hL (show ("strconv.ErrSyntax", Rows.laid_strconv_ErrSyntax) ∈ Rows.fnExactReleaseGetRow.laid by simp [Rows.fnExactReleaseGetRow])
  have hGr := q6g (show Tryz.prog.globalNamed "strconv.ErrRange" = some 2 by kernel_rfl) (show (Tryz.prog.globals[2]?).map (·.type) = some 90 by kernel_rfl) Tryz.underlying90 hL (show ("strconv.ErrRange", Rows.laid_strconv_ErrRange) ∈ Rows.fnExactReleaseGetRow.laid by simp [Rows.fnExactReleaseGetRow])
  have hJ : Jp.J W := ⟨hGm, hGp, hGe, hGr⟩
  clear hsh hL
  have hsz := hsz0
  have hval := hval0
  have hW' := hW
  obtain ⟨p, q, hA0, hV, rfl, hfz, hnd⟩ := hW
  have hA : DataW.TrodAll enc Tryz.prog W 0 (fun _ => true) true Tryz.f3.params.toList args.toList ds p := hA0
  rw [Tryz.params3] at hA hval
  obtain ⟨v0, vs0, d0, ds0, p0, q0, hargs, rfl, rfl, h0, r0⟩ := trodAll_cons hA
  obtain ⟨rfl, rfl, rfl⟩ := trodAll_nil r0
  obtain rfl : args = #[v0] := by cases args; simp_all
  have lt0 : ∀ x ∈ p0, x.block < W.heap.size := by obtain ⟨m, hm⟩ := h0; exact DataW.trod_lt m _ _ _ hm
  obtain ⟨x0, o0, G0⟩ := qe7 (τ := .str) (show q4a Tryz.prog .str (.inl 9) = true by kernel_rfl) (hval 0 9 v0 rfl rfl) h0
  obtain ⟨rfl, rfl⟩ := trodVars_none hV
  clear hA0 hval0 hsz0
  obtain ⟨k, hk⟩ := q7o x0 G0
  refine (row_of (q04.q k).1 rfl (x := x0) (r := true) hk rfl (qtb hJ) hJ rfl ?_).mono fun e W' ⟨he, bel⟩ => ?_
  · intro i p s hp hs
    match i, hp, hs with
    | 0, _, hs => obtain rfl := Option.some.inj (show some (⟨.str, x0⟩ : Sv) = some s from hs); exact o0
    | i + 1, hp, _ => simp at hp
  subst he
  exact ⟨_, rfl, _, _, _, [], _, [], hW', trodAll_mk1 (shut_bool Tryz.underlying4 _), (trodAll_cons_mk (Below.trod laidOut (by kernel_rfl) (of_decide_eq_true (by kernel_rfl)) h0 bel lt0) trodAll_mk0), rfl, bel.frame _, fun h => by cases h⟩
noncomputable def q66 (os : Os) : World := World.laidAll Tryz.prog os Rows.fnExactReleaseGetRow.laid
set_option maxRecDepth 100000 in
theorem qeo (os : Os) : laidMet Tryz.prog Rows.fnExactReleaseGetRow.laid ((q66 os).forCall (fun _ _ => 0) ⟨#[], #[.string ByteArray.empty], []⟩).memory :=
  laidMet_laidAll _ (by kernel_rfl) (by kernel_rfl)
set_option maxRecDepth 100000 in
theorem reads (os : Os) {H : Type} (enc : TypeId × Value → H) : ∃ x, DataW.whole enc Tryz.prog ((q66 os).forCall (fun _ _ => 0) ⟨#[], #[.string ByteArray.empty], []⟩).memory Tryz.f3.params.toList Rows.fnExactReleaseGetSpec.vars false #[(.string ByteArray.empty : Value)].toList 12 = some x :=
  Option.isSome_iff_exists.1 (by kernel_rfl)
set_option maxRecDepth 100000 in
theorem lifted (os : Os) (started : os.Started) (H : Type) (enc : TypeId × Value → H) (F : Stop.Interp) :
    ReturnsInHanded {} Tryz.checked os 3 .any ((OpenSpec.ofChange Rows.fnExactReleaseGetSpec).preRow enc Tryz.prog Tryz.f3 Rows.fnExactReleaseGetRow.domain false Rows.fnExactReleaseGetRow.laid) (((OpenSpec.ofChange Rows.fnExactReleaseGetSpec).at F).post enc Tryz.prog Tryz.f3 false true false false) := by
  obtain ⟨x, hx⟩ := reads os enc
  refine returnsInHanded_of_row (C := Tryz.checked) (s := OpenSpec.ofChange Rows.fnExactReleaseGetSpec) own started (by kernel_rfl) Tryz.func3
    (witness_row_at (enc := enc) (C := Tryz.checked) false (q66 os) #[.string ByteArray.empty] rfl (by kernel_rfl) (by kernel_rfl) (by kernel_rfl)
      (OpenSpec.preRow_of_cond 12 (x := x) hx (by kernel_rfl) (fun k hk => by cases hk) (by kernel_rfl) (qeo os))) ?_
  intro W base args ds gs before hval hW _ _ hsz hL hsh _
  exact contract H enc W base args ds gs before hval hW hsz hL hsh
theorem kIp : (Rows.fnExactReleaseGetRow.inPlace == Tryz.prog.inPlace 3) = true := by kernel_rfl
theorem kUn : (Rows.fnExactReleaseGetRow.unfollowed == Tryz.prog.unfollowed 3) = true := by kernel_rfl
theorem kRe : (Rows.fnExactReleaseGetRow.recurses == Tryz.prog.recurses 3) = true := by kernel_rfl
theorem kNa : (Rows.fnExactReleaseGetRow.named == Tryz.prog.varsNamed 3) = true := by kernel_rfl
theorem kGo : false = Rows.fnExactReleaseGetRow.goesBy Tryz.prog := by kernel_rfl
theorem closed : joinedFacts Tryz.prog 3 Tryz.f3 (OpenSpec.ofChange Rows.fnExactReleaseGetSpec).bare Rows.fnExactReleaseGetRow = true := by
  have kMk' : (Tryz.prog.make == some Rows.fnExactReleaseGetRow.make) = true := kMk
  have kLi' : (Rows.fnExactReleaseGetRow.lifted == Tryz.prog.liftsFinal) = true := kLi
  have kPk' : (Rows.fnExactReleaseGetRow.plainKeys == Tryz.prog.plainKeys) = true := kPk
  unfold joinedFacts
  rw [kIp, kUn, kRe, kNa, kLa, kMr, kPk', kSh, kMe, kLi', kMk']
  show _ = true
  kernel_rfl
theorem said : Rows.FnExactReleaseGetSaid :=
  OpenClaim.holds_of_cond 3 Tryz.f3 rfl rfl rfl rfl rfl rfl rfl ⟨rfl, rfl, rfl, rfl, rfl⟩ rfl rfl rfl rfl rfl (by kernel_rfl) Tryz.func3 closed
    (of_decide_eq_true (by kernel_rfl)) (by unfold Func.isWrapper; first | (rw [if_pos (by decide +kernel)]; kernel_rfl) | (rw [if_neg (by decide +kernel)]; exact ⟨rfl, rfl⟩))
    (fun os started H enc _ F => by rw [OpenClaim.pre_eq_preRow]; exact lifted os started H enc F)
theorem plain (f : FuncId) (fn : Func) (hf : Tryz.pinned.checked.prog.funcNamed "loop.example/medlar/laws.FnExactReleaseGet" = some f) (hfn : Tryz.pinned.checked.prog.funcs[f]? = some fn) :
    true = Tryz.pinned.checked.prog.looks [] ∧ ∀ (j : Nat) t, fn.params[j]? = some t → Tryz.pinned.checked.prog.wantsStandIn t = false := by
  obtain rfl : f = 3 := Option.some.inj ((show Tryz.prog.funcNamed "loop.example/medlar/laws.FnExactReleaseGet" = some 3 by kernel_rfl).symm.trans hf) |>.symm
  obtain rfl : fn = Tryz.f3 := (Option.some.inj (Tryz.func3.symm.trans hfn)).symm
  refine ⟨by kernel_rfl, fun j t ht => ?_⟩
  rw [Tryz.params3] at ht
  have hm := Array.mem_of_getElem? ht
  simp only [List.mem_toArray, List.mem_cons, List.not_mem_nil, or_false] at hm
  subst hm
  · exact (show Tryz.prog.wantsStandIn 9 = false by kernel_rfl)
theorem card : Rows.FnExactReleaseGetCardSaid :=
  Claim7.holds_tied_plain_at .later [] _ _ _ _ said (fun _ h => by cases h) (by kernel_rfl) (fun _ h => by cases h) fnExactReleaseGet_row_tie rfl ⟨rfl, rfl⟩ (by kernel_rfl) rfl plain kGo
end Go.Proofs.YtjfkeknnjjlepaaGreatDoor.fnExactReleaseGet
namespace Go.Proofs.YtjfkeknnjjlepaaGreatDoor
theorem fnExactReleaseGet_holds : Rows.FnExactReleaseGetCardSaid := fnExactReleaseGet.card
end Go.Proofs.YtjfkeknnjjlepaaGreatDoor
end
