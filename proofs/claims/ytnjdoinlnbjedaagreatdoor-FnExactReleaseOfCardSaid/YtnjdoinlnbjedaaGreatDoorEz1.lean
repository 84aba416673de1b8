import Derived.Test.YtnjdoinlnbjedaaGreatDoorE1
import Derived.Test.YtnjdoinlnbjedaaGreatDoorKz2

section
namespace Go.Proofs.YtnjdoinlnbjedaaGreatDoor.Rf
open Go Go.RowKit
set_option linter.unusedVariables false
noncomputable section
def q48.C (k : Nat) : CEs := []
abbrev q48.ps : List Par := [⟨t90, .rd⟩, ⟨t90, .rd⟩]
abbrev q48.rs : List Res := [⟨.bool, .ro, false⟩]
def q48.F := q4p E q48.C [] Tryz.f107 q48.ps q48.rs
def q48.f (k : Nat) (x0 : Aff) (x1 : Aff) : Option (Bool) := q48.F k (x0, x1)
theorem q48.f_eq (k : Nat) (x0 : Aff) (x1 : Aff) : q48.f k x0 x1 = ifb (!(x0.1.toList == x1.1.toList)) (some false) (ifb (!(x0.2.1 == x1.2.1)) (some false) (ifb (!(x0.2.2.1.toList == x1.2.2.1.toList)) (some false) (ifb (!(x0.2.2.2.1.toList == x1.2.2.2.1.toList)) (some false) (ifb (!(x0.2.2.2.2.toList == x1.2.2.2.2.toList)) (some false) (some true))))) := by kernel_rfl
abbrev q48.e (k : Nat) : FuncId × CE := (107, ⟨q48.ps, q48.rs, q48.F k⟩)
theorem q48.q (k : Nat) : Qs (q48.e k) := qq (C := q48.C) (fun k => .nil) k
def q1r.C (k : Nat) : CEs := [q48.e k]
abbrev q1r.ps : List Par := [⟨t25, .rd⟩, ⟨t25, .rd⟩]
abbrev q1r.rs : List Res := [⟨.bool, .ro, false⟩]
def q1r.H : q4o := [(4, [(0, .ro), (1, .ro), (5, .ro)])]
def q1r.F := q4p E q1r.C q1r.H Tryz.f56 q1r.ps q1r.rs
def q1r.L4 (k k1 : Nat) (x0 : List Aff) (x1 : List Aff) (x5 : Int) : Option (Bool) := atL E q1r.C q1r.H Tryz.f56 q1r.ps q1r.rs [true, true, false, true, true] k [] k1 (sh 27 [(0, .d t25 x0 .ro), (1, .d t25 x1 .ro), (5, .d (.int .i64) x5 .ro)])
def q1r.f (k : Nat) (x0 : List Aff) (x1 : List Aff) : Option (Bool) := q1r.F k (x0, x1)
theorem q1r.f_eq (k : Nat) (x0 : List Aff) (x1 : List Aff) : q1r.f k x0 x1 = ifb ((x0.length : Int) != (x1.length : Int)) (some false) (q1r.L4 k k x0 x1 (0 : Int)) := by kernel_rfl
theorem q1r.L4_eq (k k1 : Nat) (x0 : List Aff) (x1 : List Aff) (x5 : Int) : q1r.L4 k (k1 + 1) x0 x1 x5 = ifb (decide (x5 < (x0.length : Int))) (ifb (decide (0 ≤ x5) && decide (x5 < (x0.length : Int))) (ifb (decide (0 ≤ x5) && decide (x5 < (x1.length : Int))) ((q48.f k1 (x0.getD x5.toNat zA) (x1.getD x5.toNat zA)).bind fun (r0 : Bool) => ifb (!r0) (some false) (q1r.L4 k k1 x0 x1 (w64 (x5 + 1)))) (none)) (none)) (some true) := by kernel_rfl
abbrev q1r.e (k : Nat) : FuncId × CE := (56, ⟨q1r.ps, q1r.rs, q1r.F k⟩)
theorem q1r.q (k : Nat) : Qs (q1r.e k) := qq (C := q1r.C) (fun k => .c (q48.q k) <| .nil) k
def q49.C (k : Nat) : CEs := []
abbrev q49.ps : List Par := [⟨t92, .rd⟩, ⟨t92, .rd⟩]
abbrev q49.rs : List Res := [⟨.bool, .ro, false⟩]
def q49.F := q4p E q49.C [] Tryz.f108 q49.ps q49.rs
def q49.f (k : Nat) (x0 : ByteArray × ByteArray) (x1 : ByteArray × ByteArray) : Option (Bool) := q49.F k (x0, x1)
theorem q49.f_eq (k : Nat) (x0 : ByteArray × ByteArray) (x1 : ByteArray × ByteArray) : q49.f k x0 x1 = ifb (!(x0.1.toList == x1.1.toList)) (some false) (ifb (!(x0.2.toList == x1.2.toList)) (some false) (some true)) := by kernel_rfl
abbrev q49.e (k : Nat) : FuncId × CE := (108, ⟨q49.ps, q49.rs, q49.F k⟩)
theorem q49.q (k : Nat) : Qs (q49.e k) := qq (C := q49.C) (fun k => .nil) k
def q1s.C (k : Nat) : CEs := [q49.e k]
abbrev q1s.ps : List Par := [⟨t24, .rd⟩, ⟨t24, .rd⟩]
abbrev q1s.rs : List Res := [⟨.bool, .ro, false⟩]
def q1s.H : q4o := [(4, [(0, .ro), (1, .ro), (5, .ro)])]
def q1s.F := q4p E q1s.C q1s.H Tryz.f57 q1s.ps q1s.rs
def q1s.L4 (k k1 : Nat) (x0 : List En) (x1 : List En) (x5 : Int) : Option (Bool) := atL E q1s.C q1s.H Tryz.f57 q1s.ps q1s.rs [true, true, false, true, true] k [] k1 (sh 27 [(0, .d t24 x0 .ro), (1, .d t24 x1 .ro), (5, .d (.int .i64) x5 .ro)])
def q1s.f (k : Nat) (x0 : List En) (x1 : List En) : Option (Bool) := q1s.F k (x0, x1)
theorem q1s.f_eq (k : Nat) (x0 : List En) (x1 : List En) : q1s.f k x0 x1 = ifb ((x0.length : Int) != (x1.length : Int)) (some false) (q1s.L4 k k x0 x1 (0 : Int)) := by kernel_rfl
theorem q1s.L4_eq (k k1 : Nat) (x0 : List En) (x1 : List En) (x5 : Int) : q1s.L4 k (k1 + 1) x0 x1 x5 = ifb (decide (x5 < (x0.length : Int))) (ifb (decide (0 ≤ x5) && decide (x5 < (x0.length : Int))) (ifb (decide (0 ≤ x5) && decide (x5 < (x1.length : Int))) ((q49.f k1 (x0.getD x5.toNat zE) (x1.getD x5.toNat zE)).bind fun (r0 : Bool) => ifb (!r0) (some false) (q1s.L4 k k1 x0 x1 (w64 (x5 + 1)))) (none)) (none)) (some true) := by kernel_rfl
abbrev q1s.e (k : Nat) : FuncId × CE := (57, ⟨q1s.ps, q1s.rs, q1s.F k⟩)
theorem q1s.q (k : Nat) : Qs (q1s.e k) := qq (C := q1s.C) (fun k => .c (q49.q k) <| .nil) k
def q3p.C (k : Nat) : CEs := [q1r.e k, q1s.e k]
abbrev q3p.ps : List Par := [⟨t38, .rd⟩, ⟨t38, .rd⟩]
abbrev q3p.rs : List Res := [⟨.bool, .ro, false⟩]
def q3p.F := q4p E q3p.C [] Tryz.f17 q3p.ps q3p.rs
def q3p.f (k : Nat) (x0 : Book) (x1 : Book) : Option (Bool) := q3p.F k (x0, x1)
theorem q3p.f_eq (k : Nat) (x0 : Book) (x1 : Book) : q3p.f k x0 x1 = (q1r.f k x0.1 x1.1).bind fun (r0 : Bool) => ifb (!r0) (some false) ((q1s.f k x0.2 x1.2).bind fun (r1 : Bool) => ifb (!r1) (some false) (some true)) := by kernel_rfl
abbrev q3p.e (k : Nat) : FuncId × CE := (17, ⟨q3p.ps, q3p.rs, q3p.F k⟩)
theorem q3p.q (k : Nat) : Qs (q3p.e k) := qq (C := q3p.C) (fun k => .c (q1r.q k) <| .c (q1s.q k) <| .nil) k
def q1n.C (k : Nat) : CEs := []
abbrev q1n.ps : List Par := [⟨(.row .str), .rd⟩, ⟨(.row .str), .rd⟩]
abbrev q1n.rs : List Res := [⟨.bool, .ro, false⟩]
def q1n.H : q4o := [(4, [(0, .ro), (1, .ro), (5, .ro)])]
def q1n.F := q4p E q1n.C q1n.H Tryz.f106 q1n.ps q1n.rs
def q1n.L4 (k k1 : Nat) (x0 : List ByteArray) (x1 : List ByteArray) (x5 : Int) : Option (Bool) := atL E q1n.C q1n.H Tryz.f106 q1n.ps q1n.rs [true, true, false, true, true] k [] k1 (sh 26 [(0, .d (.row .str) x0 .ro), (1, .d (.row .str) x1 .ro), (5, .d (.int .i64) x5 .ro)])
def q1n.f (k : Nat) (x0 : List ByteArray) (x1 : List ByteArray) : Option (Bool) := q1n.F k (x0, x1)
theorem q1n.f_eq (k : Nat) (x0 : List ByteArray) (x1 : List ByteArray) : q1n.f k x0 x1 = ifb ((x0.length : Int) != (x1.length : Int)) (some false) (q1n.L4 k k x0 x1 (0 : Int)) := by kernel_rfl
theorem q1n.L4_eq (k k1 : Nat) (x0 : List ByteArray) (x1 : List ByteArray) (x5 : Int) : q1n.L4 k (k1 + 1) x0 x1 x5 = ifb (decide (x5 < (x0.length : Int))) (ifb (decide (0 ≤ x5) && decide (x5 < (x0.length : Int))) (ifb (decide (0 ≤ x5) && decide (x5 < (x1.length : Int))) (ifb (!((x0.getD x5.toNat bz).toList == (x1.getD x5.toNat bz).toList)) (some false) (q1n.L4 k k1 x0 x1 (w64 (x5 + 1)))) (none)) (none)) (some true) := by kernel_rfl
abbrev q1n.e (k : Nat) : FuncId × CE := (106, ⟨q1n.ps, q1n.rs, q1n.F k⟩)
theorem q1n.q (k : Nat) : Qs (q1n.e k) := qq (C := q1n.C) (fun k => .nil) k
end
end Go.Proofs.YtnjdoinlnbjedaaGreatDoor.Rf
end

section
namespace Go.Proofs.YtnjdoinlnbjedaaGreatDoor.Rf
open Go Go.RowKit
set_option linter.unusedVariables false
noncomputable section
def q4a.C (k : Nat) : CEs := [q1r.e k, q1s.e k, q1n.e k]
abbrev q4a.ps : List Par := [⟨t26, .rd⟩, ⟨t26, .rd⟩]
abbrev q4a.rs : List Res := [⟨.bool, .ro, false⟩]
def q4a.F := q4p E q4a.C [] Tryz.f55 q4a.ps q4a.rs
def q4a.f (k : Nat) (x0 : Delta) (x1 : Delta) : Option (Bool) := q4a.F k (x0, x1)
theorem q4a.f_eq (k : Nat) (x0 : Delta) (x1 : Delta) : q4a.f k x0 x1 = (q1n.f k x0.1 x1.1).bind fun (r0 : Bool) => ifb (!r0) (some false) ((q1s.f k x0.2.1 x1.2.1).bind fun (r1 : Bool) => ifb (!r1) (some false) (ifb (!(x0.2.2.1 == x1.2.2.1)) (some false) ((q1r.f k x0.2.2.2 x1.2.2.2).bind fun (r2 : Bool) => ifb (!r2) (some false) (some true)))) := by kernel_rfl
abbrev q4a.e (k : Nat) : FuncId × CE := (55, ⟨q4a.ps, q4a.rs, q4a.F k⟩)
theorem q4a.q (k : Nat) : Qs (q4a.e k) := qq (C := q4a.C) (fun k => .c (q1r.q k) <| .c (q1s.q k) <| .c (q1n.q k) <| .nil) k
def q2q.C (k : Nat) : CEs := [q4a.e k]
abbrev q2q.ps : List Par := [⟨t28, .rd⟩, ⟨t28, .rd⟩]
abbrev q2q.rs : List Res := [⟨.bool, .ro, false⟩]
def q2q.F := q4p E q2q.C [] Tryz.f16 q2q.ps q2q.rs
def q2q.f (k : Nat) (x0 : Release) (x1 : Release) : Option (Bool) := q2q.F k (x0, x1)
theorem q2q.f_eq (k : Nat) (x0 : Release) (x1 : Release) : q2q.f k x0 x1 = ifb (x0.1 != x1.1) (some false) ((q4a.f k x0.2.1 x1.2.1).bind fun (r0 : Bool) => ifb (!r0) (some false) (ifb (!(x0.2.2.1.toList == x1.2.2.1.toList)) (some false) (ifb (!(x0.2.2.2.toList == x1.2.2.2.toList)) (some false) (some true)))) := by kernel_rfl
abbrev q2q.e (k : Nat) : FuncId × CE := (16, ⟨q2q.ps, q2q.rs, q2q.F k⟩)
theorem q2q.q (k : Nat) : Qs (q2q.e k) := qq (C := q2q.C) (fun k => .c (q4a.q k) <| .nil) k
def q0j.C (k : Nat) : CEs := []
abbrev q0j.ps : List Par := [⟨(.int .i64), .rd⟩]
abbrev q0j.rs : List Res := [⟨.str, .ro, false⟩]
def q0j.H : q4o := [(4, [(0, .ro), (3, .ro)])]
def q0j.F := q4p E q0j.C q0j.H Tryz.f109 q0j.ps q0j.rs
def q0j.L4 (k k1 : Nat) (x0 : Int) (x3 : ByteArray) : Option (ByteArray) := atL E q0j.C q0j.H Tryz.f109 q0j.ps q0j.rs [true, true, true, false, true] k [] k1 (sh 20 [(0, .d (.int .i64) x0 .ro), (3, .d .str x3 .ro)])
def q0j.f (k : Nat) (x0 : Int) : Option (ByteArray) := q0j.F k x0
theorem q0j.f_eq (k : Nat) (x0 : Int) : q0j.f k x0 = ifb (decide (x0 ≤ (0 : Int))) (some (⟨#[109, 48]⟩ : ByteArray)) (q0j.L4 k k x0 bz) := by kernel_rfl
theorem q0j.L4_eq (k k1 : Nat) (x0 : Int) (x3 : ByteArray) : q0j.L4 k (k1 + 1) x0 x3 = ifb (decide (x0 > 0)) (ifb (decide ((10 : Int) ≠ 0)) (ifb (q5m ((strOf [(IntKind.u8.wrap (w64 ((48 : Int) + (x0.tmod (10 : Int)))))]).size + x3.size)) (ifb (decide ((10 : Int) ≠ 0)) (q0j.L4 k k1 (w64 (x0.tdiv (10 : Int))) ((strOf [(IntKind.u8.wrap (w64 ((48 : Int) + (x0.tmod (10 : Int)))))]) ++ x3)) (none)) (none)) (none)) (ifb (q5m ((⟨#[109]⟩ : ByteArray).size + x3.size)) (some ((⟨#[109]⟩ : ByteArray) ++ x3)) (none)) := by kernel_rfl
abbrev q0j.e (k : Nat) : FuncId × CE := (109, ⟨q0j.ps, q0j.rs, q0j.F k⟩)
theorem q0j.q (k : Nat) : Qs (q0j.e k) := qq (C := q0j.C) (fun k => .nil) k
def q0h.C (k : Nat) : CEs := [q0j.e k]
abbrev q0h.ps : List Par := [⟨t25, .io (.own .ro)⟩, ⟨(.int .i64), .rd⟩]
abbrev q0h.rs : List Res := [⟨(.int .i64), .ro, false⟩]
def q0h.H : q4o := [(2, [(0, (.own .ro)), (1, .ro), (5, .ro)]), (7, [(0, (.own .ro)), (1, .ro), (5, .ro)]), (11, [(0, (.own .ro)), (1, .ro), (5, .ro)])]
def q0h.F := q4p E q0h.C q0h.H Tryz.f58 q0h.ps q0h.rs
def q0h.L2 (k k1 : Nat) (x0 : List Aff) (x1 : Int) (x5 : Int) : Option (Int × List Aff) := atL E q0h.C q0h.H Tryz.f58 q0h.ps q0h.rs [true, false, true, true] k [] k1 (sh 54 [(0, .d t25 x0 (.own .ro)), (1, .d (.int .i64) x1 .ro), (5, .d (.int .i64) x5 .ro)])
def q0h.J7 (k k1 k2 : Nat) (x0 : List Aff) (x1 : Int) (x5 : Int) : Option (Int × List Aff) := atJ E q0h.C q0h.H Tryz.f58 q0h.ps q0h.rs [true, false, true, true, true, true, false, true, true, true, true] k [k1] k2 (sh 54 [(0, .d t25 x0 (.own .ro)), (1, .d (.int .i64) x1 .ro), (5, .d (.int .i64) x5 .ro)])
def q0h.J11 (k k1 k2 : Nat) (x0 : List Aff) (x1 : Int) (x5 : Int) : Option (Int × List Aff) := atJ E q0h.C q0h.H Tryz.f58 q0h.ps q0h.rs [true, false, true, true, true, true, false, true, true, true, true, true, true, true, true] k [k1, 0] k2 (sh 54 [(0, .d t25 x0 (.own .ro)), (1, .d (.int .i64) x1 .ro), (5, .d (.int .i64) x5 .ro)])
def q0h.f (k : Nat) (x0 : List Aff) (x1 : Int) : Option (Int × List Aff) := q0h.F k (x0, x1)
theorem q0h.f_eq (k : Nat) (x0 : List Aff) (x1 : Int) : q0h.f k x0 x1 = q0h.L2 k k x0 x1 (0 : Int) := by kernel_rfl
theorem q0h.L2_eq (k k1 : Nat) (x0 : List Aff) (x1 : Int) (x5 : Int) : q0h.L2 k (k1 + 1) x0 x1 x5 = ifb (decide (x5 < (x0.length : Int))) ((q0j.f k1 x1).bind fun (r0 : ByteArray) => ifb (decide (0 ≤ x5) && decide (x5 < (x0.length : Int))) (ifb (decide ((3 : Int) ≠ 0)) (ifb (decide (0 ≤ x5) && decide (x5 < ((x0.set x5.toNat (r0, (x0.getD x5.toNat zA).2)).length : Int))) (q0h.J7 k k1 k1 ((x0.set x5.toNat (r0, (x0.getD x5.toNat zA).2)).set x5.toNat (((x0.set x5.toNat (r0, (x0.getD x5.toNat zA).2)).getD x5.toNat zA).1, (((w64 (x1 + 1)).tmod (3 : Int)) == (0 : Int)), (((x0.set x5.toNat (r0, (x0.getD x5.toNat zA).2)).getD x5.toNat zA).2).2)) (w64 (x1 + 1)) x5) (none)) (none)) (none)) (some (x1, x0)) := by kernel_rfl
theorem q0h.J7_eq (k k1 k2 : Nat) (x0 : List Aff) (x1 : Int) (x5 : Int) : q0h.J7 k k1 (k2 + 1) x0 x1 x5 = (q0j.f k2 (w64 (x1 + 1))).bind fun (r1 : ByteArray) => ifb (decide (0 ≤ x5) && decide (x5 < (x0.length : Int))) ((q0j.f k2 (w64 ((w64 (x1 + 1)) + 1))).bind fun (r2 : ByteArray) => ifb (decide (0 ≤ x5) && decide (x5 < ((x0.set x5.toNat ((x0.getD x5.toNat zA).1, ((x0.getD x5.toNat zA).2).1, r1, (((x0.getD x5.toNat zA).2).2).2)).length : Int))) (q0h.J11 k k1 k2 ((x0.set x5.toNat ((x0.getD x5.toNat zA).1, ((x0.getD x5.toNat zA).2).1, r1, (((x0.getD x5.toNat zA).2).2).2)).set x5.toNat (((x0.set x5.toNat ((x0.getD x5.toNat zA).1, ((x0.getD x5.toNat zA).2).1, r1, (((x0.getD x5.toNat zA).2).2).2)).getD x5.toNat zA).1, (((x0.set x5.toNat ((x0.getD x5.toNat zA).1, ((x0.getD x5.toNat zA).2).1, r1, (((x0.getD x5.toNat zA).2).2).2)).getD x5.toNat zA).2).1, ((((x0.set x5.toNat ((x0.getD x5.toNat zA).1, ((x0.getD x5.toNat zA).2).1, r1, (((x0.getD x5.toNat zA).2).2).2)).getD x5.toNat zA).2).2).1, r2, (((((x0.set x5.toNat ((x0.getD x5.toNat zA).1, ((x0.getD x5.toNat zA).2).1, r1, (((x0.getD x5.toNat zA).2).2).2)).getD x5.toNat zA).2).2).2).2)) (w64 ((w64 (x1 + 1)) + 1)) x5) (none)) (none) := by kernel_rfl
theorem q0h.J11_eq (k k1 k2 : Nat) (x0 : List Aff) (x1 : Int) (x5 : Int) : q0h.J11 k k1 (k2 + 1) x0 x1 x5 = (q0j.f k2 (w64 (x1 + 1))).bind fun (r3 : ByteArray) => ifb (decide (0 ≤ x5) && decide (x5 < (x0.length : Int))) (q0h.L2 k k1 (x0.set x5.toNat ((x0.getD x5.toNat zA).1, ((x0.getD x5.toNat zA).2).1, (((x0.getD x5.toNat zA).2).2).1, ((((x0.getD x5.toNat zA).2).2).2).1, r3)) (w64 ((w64 (x1 + 1)) + 1)) (w64 (x5 + 1))) (none) := by kernel_rfl
abbrev q0h.e (k : Nat) : FuncId × CE := (58, ⟨q0h.ps, q0h.rs, q0h.F k⟩)
theorem q0h.q (k : Nat) : Qs (q0h.e k) := qq (C := q0h.C) (fun k => .c (q0j.q k) <| .nil) k
def q0m.C (k : Nat) : CEs := [q0j.e k]
abbrev q0m.ps : List Par := [⟨t24, .io (.own .ro)⟩, ⟨(.int .i64), .rd⟩]
abbrev q0m.rs : List Res := [⟨(.int .i64), .ro, false⟩]
def q0m.H : q4o := [(2, [(0, (.own .ro)), (1, .ro), (5, .ro)]), (7, [(0, (.own .ro)), (1, .ro), (5, .ro)])]
def q0m.F := q4p E q0m.C q0m.H Tryz.f59 q0m.ps q0m.rs
def q0m.L2 (k k1 : Nat) (x0 : List En) (x1 : Int) (x5 : Int) : Option (Int × List En) := atL E q0m.C q0m.H Tryz.f59 q0m.ps q0m.rs [true, false, true, true] k [] k1 (sh 29 [(0, .d t24 x0 (.own .ro)), (1, .d (.int .i64) x1 .ro), (5, .d (.int .i64) x5 .ro)])
def q0m.J7 (k k1 k2 : Nat) (x0 : List En) (x1 : Int) (x5 : Int) : Option (Int × List En) := atJ E q0m.C q0m.H Tryz.f59 q0m.ps q0m.rs [true, false, true, true, true, true, false, true, true, true, true] k [k1] k2 (sh 29 [(0, .d t24 x0 (.own .ro)), (1, .d (.int .i64) x1 .ro), (5, .d (.int .i64) x5 .ro)])
def q0m.f (k : Nat) (x0 : List En) (x1 : Int) : Option (Int × List En) := q0m.F k (x0, x1)
theorem q0m.f_eq (k : Nat) (x0 : List En) (x1 : Int) : q0m.f k x0 x1 = q0m.L2 k k x0 x1 (0 : Int) := by kernel_rfl
theorem q0m.L2_eq (k k1 : Nat) (x0 : List En) (x1 : Int) (x5 : Int) : q0m.L2 k (k1 + 1) x0 x1 x5 = ifb (decide (x5 < (x0.length : Int))) ((q0j.f k1 x1).bind fun (r0 : ByteArray) => ifb (decide (0 ≤ x5) && decide (x5 < (x0.length : Int))) ((q0j.f k1 (w64 (x1 + 1))).bind fun (r1 : ByteArray) => ifb (decide (0 ≤ x5) && decide (x5 < ((x0.set x5.toNat (r0, (x0.getD x5.toNat zE).2)).length : Int))) (q0m.J7 k k1 k1 ((x0.set x5.toNat (r0, (x0.getD x5.toNat zE).2)).set x5.toNat (((x0.set x5.toNat (r0, (x0.getD x5.toNat zE).2)).getD x5.toNat zE).1, r1)) (w64 (x1 + 1)) x5) (none)) (none)) (some (x1, x0)) := by kernel_rfl
theorem q0m.J7_eq (k k1 k2 : Nat) (x0 : List En) (x1 : Int) (x5 : Int) : q0m.J7 k k1 (k2 + 1) x0 x1 x5 = q0m.L2 k k1 x0 (w64 (x1 + 1)) (w64 (x5 + 1)) := by kernel_rfl
abbrev q0m.e (k : Nat) : FuncId × CE := (59, ⟨q0m.ps, q0m.rs, q0m.F k⟩)
theorem q0m.q (k : Nat) : Qs (q0m.e k) := qq (C := q0m.C) (fun k => .c (q0j.q k) <| .nil) k
def q36.C (k : Nat) : CEs := [q0h.e k, q0m.e k]
abbrev q36.ps : List Par := [⟨t38, .io (.pr (.own .ro) (.own .ro))⟩, ⟨(.int .i64), .rd⟩]
abbrev q36.rs : List Res := [⟨(.int .i64), .ro, false⟩]
def q36.F := qkt E q36.C [] Tryz.f18 q36.ps q36.rs
def q36.f (k : Nat) (x0 : Book) (x1 : Int) : Option (Int × Book) := q36.F k (x0, x1)
theorem q36.f_eq (k : Nat) (x0 : Book) (x1 : Int) : q36.f k x0 x1 = (q0h.f k x0.1 x1).bind fun (r0 : Int × List Aff) => (q0m.f k x0.2 r0.1).bind fun (r1 : Int × List En) => some (r1.1, (r0.2, r1.2)) := by kernel_rfl
abbrev q36.e (k : Nat) : FuncId × CE := (18, ⟨q36.ps, q36.rs, q36.F k⟩)
theorem q36.q (k : Nat) : Qs (q36.e k) := qb (C := q36.C) (fun k => .c (q0h.q k) <| .c (q0m.q k) <| .nil) k
def q18.C (k : Nat) : CEs := [q0j.e k]
abbrev q18.ps : List Par := [⟨(.row .str), .io (.own .ro)⟩, ⟨(.int .i64), .rd⟩]
abbrev q18.rs : List Res := [⟨(.int .i64), .ro, false⟩]
def q18.H : q4o := [(2, [(0, (.own .ro)), (1, .ro), (5, .ro)])]
def q18.F := q4p E q18.C q18.H Tryz.f110 q18.ps q18.rs
def q18.L2 (k k1 : Nat) (x0 : List ByteArray) (x1 : Int) (x5 : Int) : Option (Int × List ByteArray) := atL E q18.C q18.H Tryz.f110 q18.ps q18.rs [true, false, true, true] k [] k1 (sh 20 [(0, .d (.row .str) x0 (.own .ro)), (1, .d (.int .i64) x1 .ro), (5, .d (.int .i64) x5 .ro)])
def q18.f (k : Nat) (x0 : List ByteArray) (x1 : Int) : Option (Int × List ByteArray) := q18.F k (x0, x1)
theorem q18.f_eq (k : Nat) (x0 : List ByteArray) (x1 : Int) : q18.f k x0 x1 = q18.L2 k k x0 x1 (0 : Int) := by kernel_rfl
theorem q18.L2_eq (k k1 : Nat) (x0 : List ByteArray) (x1 : Int) (x5 : Int) : q18.L2 k (k1 + 1) x0 x1 x5 = ifb (decide (x5 < (x0.length : Int))) ((q0j.f k1 x1).bind fun (r0 : ByteArray) => ifb (decide (0 ≤ x5) && decide (x5 < (x0.length : Int))) (q18.L2 k k1 (x0.set x5.toNat r0) (w64 (x1 + 1)) (w64 (x5 + 1))) (none)) (some (x1, x0)) := by kernel_rfl
abbrev q18.e (k : Nat) : FuncId × CE := (110, ⟨q18.ps, q18.rs, q18.F k⟩)
theorem q18.q (k : Nat) : Qs (q18.e k) := qq (C := q18.C) (fun k => .c (q0j.q k) <| .nil) k
def q3j.C (k : Nat) : CEs := [q0h.e k, q0m.e k, q18.e k]
abbrev q3j.ps : List Par := [⟨t26, .io (.pr (.own .ro) (.pr (.own .ro) (.pr .ro (.own .ro))))⟩, ⟨(.int .i64), .rd⟩]
abbrev q3j.rs : List Res := [⟨(.int .i64), .ro, false⟩]
def q3j.F := qkt E q3j.C [] Tryz.f60 q3j.ps q3j.rs
def q3j.f (k : Nat) (x0 : Delta) (x1 : Int) : Option (Int × Delta) := q3j.F k (x0, x1)
theorem q3j.f_eq (k : Nat) (x0 : Delta) (x1 : Int) : q3j.f k x0 x1 = (q18.f k x0.1 x1).bind fun (r0 : Int × List ByteArray) => (q0m.f k x0.2.1 r0.1).bind fun (r1 : Int × List En) => (q0h.f k x0.2.2.2 r1.1).bind fun (r2 : Int × List Aff) => some (r2.1, (r0.2, r1.2, x0.2.2.1, r2.2)) := by kernel_rfl
abbrev q3j.e (k : Nat) : FuncId × CE := (60, ⟨q3j.ps, q3j.rs, q3j.F k⟩)
theorem q3j.q (k : Nat) : Qs (q3j.e k) := qb (C := q3j.C) (fun k => .c (q0h.q k) <| .c (q0m.q k) <| .c (q18.q k) <| .nil) k
def q2e.C (k : Nat) : CEs := [q3j.e k]
abbrev q2e.ps : List Par := [⟨t28, .io (.pr .ro (.pr (.pr (.own .ro) (.pr (.own .ro) (.pr .ro (.own .ro)))) .ro))⟩, ⟨(.int .i64), .rd⟩]
abbrev q2e.rs : List Res := [⟨(.int .i64), .ro, false⟩]
def q2e.F := qkt E q2e.C [] Tryz.f19 q2e.ps q2e.rs
def q2e.f (k : Nat) (x0 : Release) (x1 : Int) : Option (Int × Release) := q2e.F k (x0, x1)
theorem q2e.f_eq (k : Nat) (x0 : Release) (x1 : Int) : q2e.f k x0 x1 = (q3j.f k x0.2.1 x1).bind fun (r0 : Int × Delta) => some (r0.1, (x0.1, r0.2, x0.2.2)) := by kernel_rfl
abbrev q2e.e (k : Nat) : FuncId × CE := (19, ⟨q2e.ps, q2e.rs, q2e.F k⟩)
theorem q2e.q (k : Nat) : Qs (q2e.e k) := qb (C := q2e.C) (fun k => .c (q3j.q k) <| .nil) k
def q14.C (k : Nat) : CEs := [q0j.e k]
abbrev q14.ps : List Par := [⟨t25, .rd⟩, ⟨(.int .i64), .rd⟩]
abbrev q14.rs : List Res := [⟨(.int .i64), .ro, false⟩]
def q14.H : q4o := [(2, [(0, .ro), (1, .ro), (5, .ro)])]
def q14.F := q4p E q14.C q14.H Tryz.f78 q14.ps q14.rs
def q14.L2 (k k1 : Nat) (x0 : List Aff) (x1 : Int) (x5 : Int) : Option (Int) := atL E q14.C q14.H Tryz.f78 q14.ps q14.rs [true, false, true, true] k [] k1 (sh 64 [(0, .d t25 x0 .ro), (1, .d (.int .i64) x1 .ro), (5, .d (.int .i64) x5 .ro)])
def q14.f (k : Nat) (x0 : List Aff) (x1 : Int) : Option (Int) := q14.F k (x0, x1)
theorem q14.f_eq (k : Nat) (x0 : List Aff) (x1 : Int) : q14.f k x0 x1 = q14.L2 k k x0 x1 (0 : Int) := by kernel_rfl
theorem q14.L2_eq (k k1 : Nat) (x0 : List Aff) (x1 : Int) (x5 : Int) : q14.L2 k (k1 + 1) x0 x1 x5 = ifb (decide (x5 < (x0.length : Int))) (ifb (decide (0 ≤ x5) && decide (x5 < (x0.length : Int))) ((q0j.f k1 x1).bind fun (r0 : ByteArray) => ifb (!(((x0.getD x5.toNat zA).1).toList == r0.toList)) (some (-1 : Int)) (ifb (decide (0 ≤ x5) && decide (x5 < (x0.length : Int))) (ifb (decide ((3 : Int) ≠ 0)) (ifb (!(((x0.getD x5.toNat zA).2).1 == (((w64 (x1 + 1)).tmod (3 : Int)) == (0 : Int)))) (some (-1 : Int)) (ifb (decide (0 ≤ x5) && decide (x5 < (x0.length : Int))) ((q0j.f k1 (w64 ((w64 (x1 + 1)) + 1))).bind fun (r1 : ByteArray) => ifb (!(((((x0.getD x5.toNat zA).2).2).1).toList == r1.toList)) (some (-1 : Int)) (ifb (decide (0 ≤ x5) && decide (x5 < (x0.length : Int))) ((q0j.f k1 (w64 ((w64 ((w64 (x1 + 1)) + 1)) + 1))).bind fun (r2 : ByteArray) => ifb (!((((((x0.getD x5.toNat zA).2).2).2).1).toList == r2.toList)) (some (-1 : Int)) (ifb (decide (0 ≤ x5) && decide (x5 < (x0.length : Int))) ((q0j.f k1 (w64 ((w64 ((w64 ((w64 (x1 + 1)) + 1)) + 1)) + 1))).bind fun (r3 : ByteArray) => ifb (!((((((x0.getD x5.toNat zA).2).2).2).2).toList == r3.toList)) (some (-1 : Int)) (q14.L2 k k1 x0 (w64 ((w64 ((w64 ((w64 ((w64 (x1 + 1)) + 1)) + 1)) + 1)) + 1)) (w64 (x5 + 1)))) (none))) (none))) (none))) (none)) (none))) (none)) (some x1) := by kernel_rfl
abbrev q14.e (k : Nat) : FuncId × CE := (78, ⟨q14.ps, q14.rs, q14.F k⟩)
theorem q14.q (k : Nat) : Qs (q14.e k) := qq (C := q14.C) (fun k => .c (q0j.q k) <| .nil) k
def q15.C (k : Nat) : CEs := [q0j.e k]
abbrev q15.ps : List Par := [⟨t24, .rd⟩, ⟨(.int .i64), .rd⟩]
abbrev q15.rs : List Res := [⟨(.int .i64), .ro, false⟩]
def q15.H : q4o := [(2, [(0, .ro), (1, .ro), (5, .ro)])]
def q15.F := q4p E q15.C q15.H Tryz.f79 q15.ps q15.rs
def q15.L2 (k k1 : Nat) (x0 : List En) (x1 : Int) (x5 : Int) : Option (Int) := atL E q15.C q15.H Tryz.f79 q15.ps q15.rs [true, false, true, true] k [] k1 (sh 33 [(0, .d t24 x0 .ro), (1, .d (.int .i64) x1 .ro), (5, .d (.int .i64) x5 .ro)])
def q15.f (k : Nat) (x0 : List En) (x1 : Int) : Option (Int) := q15.F k (x0, x1)
theorem q15.f_eq (k : Nat) (x0 : List En) (x1 : Int) : q15.f k x0 x1 = q15.L2 k k x0 x1 (0 : Int) := by kernel_rfl
theorem q15.L2_eq (k k1 : Nat) (x0 : List En) (x1 : Int) (x5 : Int) : q15.L2 k (k1 + 1) x0 x1 x5 = ifb (decide (x5 < (x0.length : Int))) (ifb (decide (0 ≤ x5) && decide (x5 < (x0.length : Int))) ((q0j.f k1 x1).bind fun (r0 : ByteArray) => ifb (!(((x0.getD x5.toNat zE).1).toList == r0.toList)) (some (-1 : Int)) (ifb (decide (0 ≤ x5) && decide (x5 < (x0.length : Int))) ((q0j.f k1 (w64 (x1 + 1))).bind fun (r1 : ByteArray) => ifb (!(((x0.getD x5.toNat zE).2).toList == r1.toList)) (some (-1 : Int)) (q15.L2 k k1 x0 (w64 ((w64 (x1 + 1)) + 1)) (w64 (x5 + 1)))) (none))) (none)) (some x1) := by kernel_rfl
abbrev q15.e (k : Nat) : FuncId × CE := (79, ⟨q15.ps, q15.rs, q15.F k⟩)
theorem q15.q (k : Nat) : Qs (q15.e k) := qq (C := q15.C) (fun k => .c (q0j.q k) <| .nil) k
end
end Go.Proofs.YtnjdoinlnbjedaaGreatDoor.Rf
end

section
/- The helpers of the laws: sizes, copies, equality, marks. -/
namespace Go.Proofs.YtnjdoinlnbjedaaGreatDoor.Rf
open Go Go.RowKit
set_option linter.unusedVariables false
set_option linter.unusedSimpArgs false
def q7o (l : Int) (n : Nat) : Int := if (n : Int) ≤ l then l - n else -1
theorem q4v (l : Int) (n : Nat) (h : 0 ≤ l) : decide (q7o l n < 0) = decide (l < n) := by
  unfold q7o
  by_cases h1 : (n : Int) ≤ l
  · rw [if_pos h1, decide_eq_false (by omega), decide_eq_false (by omega)]
  · rw [if_neg h1, decide_eq_true (by omega), decide_eq_true (by omega)]
theorem q77 (l : Int) (n m : Nat) (h : (n : Int) ≤ l) : q7o (q7o l n) m = q7o l (n + m) := by
  unfold q7o
  rw [if_pos h]
  by_cases h1 : (m : Int) ≤ l - n
  · rw [if_pos h1, if_pos (by omega)]; omega
  · rw [if_neg h1, if_neg (by omega)]
theorem q5j (l : Int) (n m : Nat) (h : l < n) : q7o l (n + m) = -1 := if_neg (by omega)
theorem q62 (l : Int) (n : Nat) (h0 : 0 ≤ l) (h1 : l ≤ 1048576) (hn : n ≤ 9223372036854775807) : w64 (l - (n : Int)) = l - n ∧ decide (l - (n : Int) < 0) = decide (l < n) :=
  ⟨q6w (by omega) (by omega), by
    by_cases h : l < n
    · rw [decide_eq_true h, decide_eq_true (by omega)]
    · rw [decide_eq_false h, decide_eq_false (by omega)]⟩
def qhx {α : Type} (f : α → Nat) : List α → Nat
  | [] => 0
  | x :: l => f x + qhx f l
theorem q9t {α : Type} (f : α → Nat) : ∀ {l : List α} {x : α}, x ∈ l → f x ≤ qhx f l
  | y :: l, x, h => by
    rcases List.mem_cons.1 h with rfl | h
    · exact Nat.le_add_right _ _
    · exact Nat.le_trans (q9t f h) (Nat.le_add_left _ _)
def szA (a : Aff) : Nat := a.1.size + (a.2.2.1.size + (a.2.2.2.1.size + a.2.2.2.2.size))
def szE (e : En) : Nat := e.1.size + e.2.size
def qhy (l : List Aff) : Nat := l.length + qhx szA l
def qhz (l : List En) : Nat := l.length + qhx szE l
def qgb (b : Book) : Nat := qhy b.1 + qhz b.2
abbrev Big (n : Nat) : Prop := n ≤ 9223372036854775807
def bgA (a : Aff) : Prop := Big a.1.size ∧ Big a.2.2.1.size ∧ Big a.2.2.2.1.size ∧ Big a.2.2.2.2.size
def bgE (e : En) : Prop := Big e.1.size ∧ Big e.2.size
theorem qf5 (k : Nat) (a : Aff) (l : Int) (h0 : 0 ≤ l) (h1 : l ≤ 1048576) (hb : bgA a) : q46.f k a l = some (q7o l (szA a)) := by
  obtain ⟨b1, b2, b3, b4⟩ := hb
  obtain ⟨e1, f1⟩ := q62 l a.1.size h0 h1 b1
  rw [q46.f_eq]
  simp only [e1, f1]
  by_cases g1 : l < a.1.size
  · rw [decide_eq_true g1, q08, szA, q5j _ _ _ g1]
  · rw [decide_eq_false g1, q0d]
    obtain ⟨e2, f2⟩ := q62 (l - a.1.size) a.2.2.1.size (by omega) (by omega) b2
    simp only [e2, f2]
    by_cases g2 : l - (a.1.size : Int) < a.2.2.1.size
    · rw [decide_eq_true g2, q08, szA, ← Nat.add_assoc, q5j _ _ _ (by omega)]
    · rw [decide_eq_false g2, q0d]
      obtain ⟨e3, f3⟩ := q62 (l - a.1.size - a.2.2.1.size) a.2.2.2.1.size (by omega) (by omega) b3
      simp only [e3, f3]
      by_cases g3 : l - (a.1.size : Int) - a.2.2.1.size < a.2.2.2.1.size
      · rw [decide_eq_true g3, q08, szA, ← Nat.add_assoc, ← Nat.add_assoc, q5j _ _ _ (by omega)]
      · rw [decide_eq_false g3, q0d]
        obtain ⟨e4, f4⟩ := q62 (l - a.1.size - a.2.2.1.size - a.2.2.2.1.size) a.2.2.2.2.size (by omega) (by omega) b4
        simp only [e4, f4]
        by_cases g4 : l - (a.1.size : Int) - a.2.2.1.size - a.2.2.2.1.size < a.2.2.2.2.size
        · rw [decide_eq_true g4, q08, szA, q7o, if_neg (by omega)]
        · rw [decide_eq_false g4, q0d, szA, q7o, if_pos (by omega)]
          congr 1
          omega
theorem qf6 (k : Nat) (a : En) (l : Int) (h0 : 0 ≤ l) (h1 : l ≤ 1048576) (hb : bgE a) : q47.f k a l = some (q7o l (szE a)) := by
  obtain ⟨b1, b2⟩ := hb
  obtain ⟨e1, f1⟩ := q62 l a.1.size h0 h1 b1
  rw [q47.f_eq]
  simp only [e1, f1]
  by_cases g1 : l < a.1.size
  · rw [decide_eq_true g1, q08, szE, q5j _ _ _ g1]
  · rw [decide_eq_false g1, q0d]
    obtain ⟨e2, f2⟩ := q62 (l - a.1.size) a.2.size (by omega) (by omega) b2
    simp only [e2, f2]
    by_cases g2 : l - (a.1.size : Int) < a.2.size
    · rw [decide_eq_true g2, q08, szE, q7o, if_neg (by omega)]
    · rw [decide_eq_false g2, q0d, szE, q7o, if_pos (by omega)]
      congr 1
      omega
theorem qao (l : List Aff) (n : Int) (h0 : 0 ≤ n) (h1 : n ≤ 1048576) (hl : Big l.length) (hb : ∀ a ∈ l, bgA a) : Al fun k => q1j.f k l n = some (q7o n (qhy l)) := by
  obtain ⟨e1, f1⟩ := q62 n l.length h0 h1 hl
  by_cases g1 : n < l.length
  · refine Al.now fun k => ?_
    rw [q1j.f_eq]
    simp only [e1, f1]
    rw [decide_eq_true g1, q08, qhy, q5j _ _ _ g1]
  · have key : ∀ (t : List Aff) (i : Nat) (m : Int), l.drop i = t → 0 ≤ m → m ≤ 1048576 → Al2 fun k k1 => q1j.L5 k k1 l m (i : Int) = some (q7o m (qhx szA t)) := by
      intro t
      induction t with
      | nil =>
        intro i m hd g2 g3
        refine Al2.succ (Al2.now fun k k1 => ?_)
        simp only [q1j.L5_eq, at_end (drop_nil hd), q0d, qhx]
        rw [q7o, if_pos (by omega)]
        congr 1
        omega
      | cons x t ih =>
        intro i m hd g2 g3
        obtain ⟨hi, d1, d2⟩ := q3t zA hd
        obtain ⟨c1, c2, c3, c4⟩ := q66 hi (by omega)
        have hx : bgA x := hb x (by rw [← d1, List.getD_eq_getElem?_getD, List.getElem?_eq_getElem hi]; exact List.getElem_mem hi)
        by_cases g4 : m < szA x
        · refine Al2.succ (Al2.now fun k k1 => ?_)
          simp only [q1j.L5_eq, c1, c2, c3, w64, c4, d1, Bool.and_self, q08, qf5 _ _ _ g2 g3 hx, Option.bind_some, q4v _ _ g2]
          rw [decide_eq_true g4, q08, qhx, q5j _ _ _ g4]
        · have e2 : q7o m (szA x) = m - szA x := if_pos (by omega)
          refine Al2.succ ((ih (i + 1) (m - szA x) d2 (by omega) (by omega)).mono fun k k1 e => ?_)
          simp only [q1j.L5_eq, c1, c2, c3, w64, c4, d1, Bool.and_self, q08, qf5 _ _ _ g2 g3 hx, Option.bind_some, q4v _ _ g2]
          rw [decide_eq_false g4, q0d, e2, e, ← e2, q77 _ _ _ (by omega), qhx]
    refine (key l 0 (n - l.length) rfl (by omega) (by omega)).diag.mono fun k e => ?_
    rw [q1j.f_eq]
    simp only [e1, f1]
    rw [decide_eq_false g1, q0d, show (0 : Int) = ((0 : Nat) : Int) from rfl, e, show n - (l.length : Int) = q7o n l.length from (if_pos (by omega)).symm, q77 _ _ _ (by omega), qhy]
theorem qe7 (l : List En) (n : Int) (h0 : 0 ≤ n) (h1 : n ≤ 1048576) (hl : Big l.length) (hb : ∀ a ∈ l, bgE a) : Al fun k => q1k.f k l n = some (q7o n (qhz l)) := by
  obtain ⟨e1, f1⟩ := q62 n l.length h0 h1 hl
  by_cases g1 : n < l.length
  · refine Al.now fun k => ?_
    rw [q1k.f_eq]
    simp only [e1, f1]
    rw [decide_eq_true g1, q08, qhz, q5j _ _ _ g1]
  · have key : ∀ (t : List En) (i : Nat) (m : Int), l.drop i = t → 0 ≤ m → m ≤ 1048576 → Al2 fun k k1 => q1k.L5 k k1 l m (i : Int) = some (q7o m (qhx szE t)) := by
      intro t
      induction t with
      | nil =>
        intro i m hd g2 g3
        refine Al2.succ (Al2.now fun k k1 => ?_)
        simp only [q1k.L5_eq, at_end (drop_nil hd), q0d, qhx]
        rw [q7o, if_pos (by omega)]
        congr 1
        omega
      | cons x t ih =>
        intro i m hd g2 g3
        obtain ⟨hi, d1, d2⟩ := q3t zE hd
        obtain ⟨c1, c2, c3, c4⟩ := q66 hi (by omega)
        have hx : bgE x := hb x (by rw [← d1, List.getD_eq_getElem?_getD, List.getElem?_eq_getElem hi]; exact List.getElem_mem hi)
        by_cases g4 : m < szE x
        · refine Al2.succ (Al2.now fun k k1 => ?_)
          simp only [q1k.L5_eq, c1, c2, c3, w64, c4, d1, Bool.and_self, q08, qf6 _ _ _ g2 g3 hx, Option.bind_some, q4v _ _ g2]
          rw [decide_eq_true g4, q08, qhx, q5j _ _ _ g4]
        · have e2 : q7o m (szE x) = m - szE x := if_pos (by omega)
          refine Al2.succ ((ih (i + 1) (m - szE x) d2 (by omega) (by omega)).mono fun k k1 e => ?_)
          simp only [q1k.L5_eq, c1, c2, c3, w64, c4, d1, Bool.and_self, q08, qf6 _ _ _ g2 g3 hx, Option.bind_some, q4v _ _ g2]
          rw [decide_eq_false g4, q0d, e2, e, ← e2, q77 _ _ _ (by omega), qhx]
    refine (key l 0 (n - l.length) rfl (by omega) (by omega)).diag.mono fun k e => ?_
    rw [q1k.f_eq]
    simp only [e1, f1]
    rw [decide_eq_false g1, q0d, show (0 : Int) = ((0 : Nat) : Int) from rfl, e, show n - (l.length : Int) = q7o n l.length from (if_pos (by omega)).symm, q77 _ _ _ (by omega), qhz]
def bgB (b : Book) : Prop := (Big b.1.length ∧ ∀ a ∈ b.1, bgA a) ∧ Big b.2.length ∧ ∀ e ∈ b.2, bgE e
theorem qe8 (b : Book) (n : Int) (h0 : 0 ≤ n) (h1 : n ≤ 1048576) (hb : bgB b) : Al fun k => q3v.f k b n = some (q7o n (qgb b)) := by
  by_cases g : n < qhy b.1
  · refine (qao b.1 n h0 h1 hb.1.1 hb.1.2).mono fun k e => ?_
    simp only [q3v.f_eq, e, Option.bind_some, q4v _ _ h0]
    rw [decide_eq_true g, q08, qgb, q5j _ _ _ g]
  · have e1 : q7o n (qhy b.1) = n - qhy b.1 := if_pos (by omega)
    refine ((qao b.1 n h0 h1 hb.1.1 hb.1.2).and (qe7 b.2 (n - qhy b.1) (by omega) (by omega) hb.2.1 hb.2.2)).mono fun k ⟨e, e2⟩ => ?_
    simp only [q3v.f_eq, e, Option.bind_some, q4v _ _ h0]
    rw [decide_eq_false g, q0d, e1, e2, Option.bind_some, ← e1, q77 _ _ _ (by omega), qgb]
    by_cases g2 : q7o n (qhy b.1 + qhz b.2) < 0
    · rw [decide_eq_true g2, q08]
      have : q7o n (qhy b.1 + qhz b.2) = -1 := by unfold q7o at *; split at g2 <;> split <;> omega
      rw [this]
    · rw [decide_eq_false g2, q0d]
theorem qq7 {a : Aff} {n : Nat} (h : szA a ≤ n) (hn : n ≤ 4611686018427387904) : smA a := by
  unfold szA at h; unfold smA Sm; omega
theorem qq8 {a : En} {n : Nat} (h : szE a ≤ n) (hn : n ≤ 4611686018427387904) : smE a := by
  unfold szE at h; unfold smE Sm; omega
theorem qni {b : Book} (h : qgb b ≤ 1048576) : smB b := by
  unfold qgb qhy qhz at h
  exact ⟨⟨by omega, fun a ha => qq7 (q9t szA ha) (by omega)⟩, by omega, fun e he => qq8 (q9t szE he) (by omega)⟩
end Go.Proofs.YtnjdoinlnbjedaaGreatDoor.Rf
end

section
/- The helpers of the laws: copies, equality, marks. -/
namespace Go.Proofs.YtnjdoinlnbjedaaGreatDoor.Rf
open Go Go.RowKit
set_option linter.unusedVariables false
set_option linter.unusedSimpArgs false
theorem set_mid {α : Type} (a : List α) (x y : α) (t : List α) : (a ++ x :: t).set a.length y = a ++ y :: t := by
  rw [List.set_append_right _ _ (Nat.le_refl _), Nat.sub_self]; rfl
theorem q8q {α : Type} (a : List α) (x : α) (t : List α) (z : α) : (a ++ x :: t).getD a.length z = x := by
  rw [List.getD_eq_getElem?_getD, List.getElem?_append_right (Nat.le_refl _), Nat.sub_self]; rfl
theorem q7r {α : Type} {l t : List α} {i : Nat} {x : α} (h : l.drop i = x :: t) : l.take (i + 1) = l.take i ++ [x] := by
  have hi := (q3t x h).1
  rw [List.take_add_one, List.getElem?_eq_getElem hi]
  rw [List.drop_eq_getElem_cons hi] at h
  injection h with h1 _
  rw [h1]; rfl
theorem qg6 (n : Nat) : ((n : Int)).toNat = n := by omega
theorem qr6 (n c : Nat) (h : n * c ≤ q0u) : (decide (0 ≤ (n : Int)) && (decide ((n : Int) ≤ (n : Int)) && decide ((n : Int) * (c : Int) ≤ (q0u : Int)))) = true := by
  have : (n : Int) * (c : Int) ≤ (q0u : Int) := by exact_mod_cast h
  rw [decide_eq_true this, decide_eq_true (Int.le_refl _), decide_eq_true (by omega)]; rfl
theorem qe9 (l : List Aff) (hl : l.length ≤ 1099511627776) : Al fun k => q1p.f k l = some l := by
  have hS : l.length ≤ 4611686018427387904 := by omega
  have key : ∀ (t : List Aff) (i : Nat), l.drop i = t → Al2 fun k k1 => q1p.L3 k k1 l (l.take i ++ List.replicate t.length zA) (i : Int) = some l := by
    intro t
    induction t with
    | nil =>
      intro i hd
      refine Al2.succ (Al2.now fun k k1 => ?_)
      have := drop_nil hd
      simp only [q1p.L3_eq, at_end this, q0d, List.length_nil, List.replicate_zero, List.append_nil]
      rw [List.take_of_length_le (by omega)]
    | cons x t ih =>
      intro i hd
      obtain ⟨hi, d1, d2⟩ := q3t zA hd
      obtain ⟨c1, c2, c3, c4⟩ := q66 hi hS
      have hti : (l.take i).length = i := by rw [List.length_take]; omega
      have hlt : decide ((i : Int) < ((l.take i ++ List.replicate (x :: t).length zA).length : Int)) = true := decide_eq_true (by simp only [List.length_append, hti, List.length_replicate, List.length_cons]; omega)
      have hs : (l.take i ++ List.replicate (x :: t).length zA).set i x = l.take (i + 1) ++ List.replicate t.length zA := by
        rw [List.length_cons, List.replicate_succ, q7r hd]
        have := set_mid (l.take i) zA x (List.replicate t.length zA)
        rw [hti] at this
        rw [this]; simp
      refine Al2.succ ((ih (i + 1) d2).mono fun k k1 e => ?_)
      simp only [q1p.L3_eq, c1, c2, c3, w64, c4, d1, hlt, Bool.and_self, q08, q4e.f_eq, Option.bind_some]
      rw [show (x.1, x.2.1, x.2.2.1, x.2.2.2.1, x.2.2.2.2) = x from rfl, hs, e]
  refine (key l 0 rfl).diag.mono fun k e => ?_
  rw [q1p.f_eq, show (72 : Int) = ((72 : Nat) : Int) from rfl, qr6 _ _ (by simp only [q0u]; omega), q08, qg6]
  simpa using e
theorem qea (l : List En) (hl : l.length ≤ 1099511627776) : Al fun k => q1q.f k l = some l := by
  have hS : l.length ≤ 4611686018427387904 := by omega
  have key : ∀ (t : List En) (i : Nat), l.drop i = t → Al2 fun k k1 => q1q.L3 k k1 l (l.take i ++ List.replicate t.length zE) (i : Int) = some l := by
    intro t
    induction t with
    | nil =>
      intro i hd
      refine Al2.succ (Al2.now fun k k1 => ?_)
      have := drop_nil hd
      simp only [q1q.L3_eq, at_end this, q0d, List.length_nil, List.replicate_zero, List.append_nil]
      rw [List.take_of_length_le (by omega)]
    | cons x t ih =>
      intro i hd
      obtain ⟨hi, d1, d2⟩ := q3t zE hd
      obtain ⟨c1, c2, c3, c4⟩ := q66 hi hS
      have hti : (l.take i).length = i := by rw [List.length_take]; omega
      have hlt : decide ((i : Int) < ((l.take i ++ List.replicate (x :: t).length zE).length : Int)) = true := decide_eq_true (by simp only [List.length_append, hti, List.length_replicate, List.length_cons]; omega)
      have hs : (l.take i ++ List.replicate (x :: t).length zE).set i x = l.take (i + 1) ++ List.replicate t.length zE := by
        rw [List.length_cons, List.replicate_succ, q7r hd]
        have := set_mid (l.take i) zE x (List.replicate t.length zE)
        rw [hti] at this
        rw [this]; simp
      refine Al2.succ ((ih (i + 1) d2).mono fun k k1 e => ?_)
      simp only [q1q.L3_eq, c1, c2, c3, w64, c4, d1, hlt, Bool.and_self, q08, q4f.f_eq, Option.bind_some]
      rw [show (x.1, x.2) = x from rfl, hs, e]
  refine (key l 0 rfl).diag.mono fun k e => ?_
  rw [q1q.f_eq, show (32 : Int) = ((32 : Nat) : Int) from rfl, qr6 _ _ (by simp only [q0u]; omega), q08, qg6]
  simpa using e
theorem qeb (b : Book) (h : smB b) : Al fun k => q2x.f k b = some b :=
  ((qe9 b.1 h.1.1).and (qea b.2 h.2.1)).mono fun k ⟨e1, e2⟩ => by
    simp only [q2x.f_eq, e1, e2, Option.bind_some]
theorem qj4 (n : Nat) : (((n : Int) != (n : Int))) = false := by simp
theorem qi0 (k : Nat) (a : Aff) : q48.f k a a = some true := by
  simp [q48.f_eq, q0d]
theorem qi1 (k : Nat) (a : En) : q49.f k a a = some true := by
  simp [q49.f_eq, q0d]
theorem qb9 (l : List Aff) (hl : Sm l.length) : Al fun k => q1r.f k l l = some true := by
  have key := q93 (Q := fun i => Al2 fun k k1 => q1r.L4 k k1 l l (i : Int) = some true) l.length
    (Al2.succ (Al2.now fun k k1 => by simp only [q1r.L4_eq, at_end (Nat.lt_irrefl _), q0d])) (fun i hi h => by
      obtain ⟨c1, c2, c3, c4⟩ := q66 hi hl
      refine Al2.succ (h.mono fun k k1 e => ?_)
      simp only [q1r.L4_eq, c1, c2, c3, w64, c4, Bool.and_self, q08, qi0, Option.bind_some, Bool.not_true, q0d, e]) 0 (Nat.zero_le _)
  exact key.diag.mono fun k e => by rw [q1r.f_eq, qj4, q0d]; exact e
theorem qba (l : List En) (hl : Sm l.length) : Al fun k => q1s.f k l l = some true := by
  have key := q93 (Q := fun i => Al2 fun k k1 => q1s.L4 k k1 l l (i : Int) = some true) l.length
    (Al2.succ (Al2.now fun k k1 => by simp only [q1s.L4_eq, at_end (Nat.lt_irrefl _), q0d])) (fun i hi h => by
      obtain ⟨c1, c2, c3, c4⟩ := q66 hi hl
      refine Al2.succ (h.mono fun k k1 e => ?_)
      simp only [q1s.L4_eq, c1, c2, c3, w64, c4, Bool.and_self, q08, qi1, Option.bind_some, Bool.not_true, q0d, e]) 0 (Nat.zero_le _)
  exact key.diag.mono fun k e => by rw [q1s.f_eq, qj4, q0d]; exact e
theorem qem (l : List ByteArray) (hl : Sm l.length) : Al fun k => q1n.f k l l = some true := by
  have key := q93 (Q := fun i => Al2 fun k k1 => q1n.L4 k k1 l l (i : Int) = some true) l.length
    (Al2.succ (Al2.now fun k k1 => by simp only [q1n.L4_eq, at_end (Nat.lt_irrefl _), q0d])) (fun i hi h => by
      obtain ⟨c1, c2, c3, c4⟩ := q66 hi hl
      refine Al2.succ (h.mono fun k k1 e => ?_)
      simp only [q1n.L4_eq, c1, c2, c3, w64, c4, Bool.and_self, q08, beq_self_eq_true, Bool.not_true, q0d, e]) 0 (Nat.zero_le _)
  exact key.diag.mono fun k e => by rw [q1n.f_eq, qj4, q0d]; exact e
theorem q8r (b : Book) (h1 : Sm b.1.length) (h2 : Sm b.2.length) : Al fun k => q3p.f k b b = some true :=
  ((qb9 b.1 h1).and (qba b.2 h2)).mono fun k ⟨e1, e2⟩ => by
    simp only [q3p.f_eq, e1, e2, Option.bind_some, Bool.not_true, q0d]
theorem qi2 (d : Delta) (h1 : Sm d.1.length) (h2 : Sm d.2.1.length) (h3 : Sm d.2.2.2.length) : Al fun k => q4a.f k d d = some true :=
  (((qem d.1 h1).and (qba d.2.1 h2)).and (qb9 d.2.2.2 h3)).mono fun k ⟨⟨e1, e2⟩, e3⟩ => by
    simp only [q4a.f_eq, e1, e2, e3, Option.bind_some, Bool.not_true, q0d, beq_self_eq_true]
theorem ql5 (l : List Int) : (strOf l).size = l.length := by simp [strOf, ByteArray.size]
theorem qj5 (n : Nat) (hn : n ≤ 4611686018427387904) : ∃ t, Al fun k => q0j.f k (n : Int) = some t := by
  by_cases h0 : n = 0
  · subst h0
    exact ⟨_, Al.now fun k => by rw [q0j.f_eq]; exact q08 _ _⟩
  · have key : ∀ (m : Nat) (n : Nat) (acc : ByteArray), n < 10 ^ m → n ≤ 4611686018427387904 → acc.size + m ≤ 30 → ∃ t, Al2 fun k k1 => q0j.L4 k k1 (n : Int) acc = some t := by
      intro m
      induction m with
      | zero =>
        intro n acc h1 h2 h3
        have : n = 0 := by simpa using h1
        subst this
        have e : q5m ((⟨#[109]⟩ : ByteArray).size + acc.size) = true := q4h (by
          have : (⟨#[109]⟩ : ByteArray).size = 1 := rfl
          rw [this]; omega)
        exact ⟨_, Al2.succ (Al2.now fun k k1 => by rw [q0j.L4_eq, show decide (((0 : Nat) : Int) > 0) = false from rfl, q0d, e, q08])⟩
      | succ m ih =>
        intro n acc h1 h2 h3
        by_cases hz : n = 0
        · subst hz
          have e : q5m ((⟨#[109]⟩ : ByteArray).size + acc.size) = true := q4h (by
            have : (⟨#[109]⟩ : ByteArray).size = 1 := rfl
            rw [this]; omega)
          exact ⟨_, Al2.succ (Al2.now fun k k1 => by rw [q0j.L4_eq, show decide (((0 : Nat) : Int) > 0) = false from rfl, q0d, e, q08])⟩
        · have hs : (strOf [(IntKind.u8.wrap (w64 ((48 : Int) + ((n : Int).tmod (10 : Int)))))]).size = 1 := ql5 _
          obtain ⟨t, ht⟩ := ih (n / 10) (strOf [(IntKind.u8.wrap (w64 ((48 : Int) + ((n : Int).tmod (10 : Int)))))] ++ acc) (by rw [Nat.pow_succ] at h1; omega) (by omega) (by rw [ByteArray.size_append, hs]; omega)
          refine ⟨t, Al2.succ (ht.mono fun k k1 e => ?_)⟩
          have e1 : decide ((n : Int) > 0) = true := decide_eq_true (by omega)
          have e2 : q5m ((strOf [(IntKind.u8.wrap (w64 ((48 : Int) + ((n : Int).tmod (10 : Int)))))]).size + acc.size) = true := q4h (by
            rw [hs]; omega)
          have e3 : w64 ((n : Int).tdiv 10) = ((n / 10 : Nat) : Int) := by
            rw [show (n : Int).tdiv 10 = ((n / 10 : Nat) : Int) from rfl, w64, q6w (by omega) (by omega)]
          rw [q0j.L4_eq, e1, q08, show decide ((10 : Int) ≠ 0) = true from rfl, q08, e2, q08, q08, e3, e]
    obtain ⟨t, ht⟩ := key 19 n bz (by omega) hn (by decide)
    refine ⟨t, ht.diag.mono fun k e => ?_⟩
    rw [q0j.f_eq, decide_eq_false (by omega), q0d]
    exact e
noncomputable def mT (n : Nat) : ByteArray := open Classical in if h : ∃ t, Al fun k => q0j.f k (n : Int) = some t then h.choose else bz
theorem q4t (n : Nat) (hn : n ≤ 4611686018427387904) : Al fun k => q0j.f k (n : Int) = some (mT n) := by
  have h := qj5 n hn
  unfold mT
  rw [dif_pos h]
  exact h.choose_spec
theorem q75 (m : Nat) (h : m ≤ 4611686018427387904) : w64 ((m : Int) + 1) = ((m + 1 : Nat) : Int) := by rw [w64, q6w (by omega) (by omega)]; omega
noncomputable def mkE : Nat → Nat → List En
  | 0, _ => []
  | n + 1, m => (mT m, mT (m + 1)) :: mkE n (m + 2)
noncomputable def mkA : Nat → Nat → List Aff
  | 0, _ => []
  | n + 1, m => (mT m, (((m + 1 : Nat) : Int).tmod 3 == 0), mT (m + 2), mT (m + 3), mT (m + 4)) :: mkA n (m + 5)
noncomputable def mkS : Nat → Nat → List ByteArray
  | 0, _ => []
  | n + 1, m => mT m :: mkS n (m + 1)
theorem qa3 : ∀ (t a : List ByteArray) (m : Nat), a.length + t.length ≤ 1099511627776 → m + t.length ≤ 1099511627776 → Al2 fun k k1 => q18.L2 k k1 (a ++ t) (m : Int) (a.length : Int) = some (((m + t.length : Nat) : Int), a ++ mkS t.length m)
  | [], a, m, h1, h2 => Al2.succ (Al2.now fun k k1 => by
    simp only [q18.L2_eq, List.append_nil, at_end (Nat.lt_irrefl _), q0d, List.length_nil, Nat.add_zero, mkS])
  | x :: t, a, m, h1, h2 => by
    rw [List.length_cons] at h1 h2
    have hi : a.length < (a ++ x :: t).length := by simp
    obtain ⟨c1, c2, c3, c4⟩ := q66 hi (by simp only [List.length_append, List.length_cons]; omega)
    have ih := qa3 t (a ++ [mT m]) (m + 1) (by rw [List.length_append]; simp; omega) (by omega)
    refine Al2.succ (((q4t m (by omega)).snd.and ih).mono fun k k1 ⟨e1, e2⟩ => ?_)
    simp only [q18.L2_eq, c1, c2, c3, Bool.and_self, q08, e1, Option.bind_some, set_mid, q75 m (by omega)]
    simp only [w64, c4]
    rw [show a ++ mT m :: t = a ++ [mT m] ++ t by simp, show ((a.length + 1 : Nat) : Int) = ((a ++ [mT m]).length : Int) by simp, e2]
    simp only [List.length_cons, mkS, List.append_assoc, List.cons_append, List.nil_append]
    rw [show m + 1 + t.length = m + (t.length + 1) by omega]
theorem q8s : ∀ (t a : List En) (m : Nat), a.length + t.length ≤ 1099511627776 → m + 2 * t.length ≤ 1099511627776 → Al2 fun k k1 => q0m.L2 k k1 (a ++ t) (m : Int) (a.length : Int) = some (((m + 2 * t.length : Nat) : Int), a ++ mkE t.length m)
  | [], a, m, h1, h2 => Al2.succ (Al2.now fun k k1 => by
    simp only [q0m.L2_eq, List.append_nil, at_end (Nat.lt_irrefl _), q0d, List.length_nil, Nat.mul_zero, Nat.add_zero, mkE])
  | x :: t, a, m, h1, h2 => by
    rw [List.length_cons] at h1 h2
    have hi : a.length < (a ++ x :: t).length := by simp
    obtain ⟨c1, c2, c3, c4⟩ := q66 hi (by simp only [List.length_append, List.length_cons]; omega)
    have hi2 : decide ((a.length : Int) < ((a ++ (mT m, x.2) :: t).length : Int)) = true := decide_eq_true (by simp only [List.length_append, List.length_cons]; omega)
    have ih := q8s t (a ++ [(mT m, mT (m + 1))]) (m + 2) (by rw [List.length_append]; simp; omega) (by omega)
    have j7 : Al3 fun k k1 k2 => q0m.J7 k k1 k2 (a ++ (mT m, mT (m + 1)) :: t) ((m + 1 : Nat) : Int) (a.length : Int) = some (((m + 2 * (x :: t).length : Nat) : Int), a ++ mkE (x :: t).length m) := Al3.succ (ih.fst.mono fun k k1 k2 e => by
      simp only [q0m.J7_eq, q75 (m + 1) (by omega)]
      simp only [w64, c4]
      rw [show a ++ (mT m, mT (m + 1)) :: t = a ++ [(mT m, mT (m + 1))] ++ t by simp, show ((a.length + 1 : Nat) : Int) = ((a ++ [(mT m, mT (m + 1))]).length : Int) by simp, e]
      simp only [List.length_cons, mkE, List.append_assoc, List.cons_append, List.nil_append]
      rw [show m + 2 + 2 * t.length = m + 2 * (t.length + 1) by omega])
    refine Al2.succ ((((q4t m (by omega)).snd.and (q4t (m + 1) (by omega)).snd).and j7.in2).mono fun k k1 ⟨⟨e1, e2⟩, e3⟩ => ?_)
    simp only [q0m.L2_eq, c1, c2, c3, Bool.and_self, q08, e1, Option.bind_some, set_mid, q8q, q75 m (by omega), e2, hi2, e3]
theorem q8t : ∀ (t a : List Aff) (m : Nat), a.length + t.length ≤ 1099511627776 → m + 5 * t.length ≤ 1099511627776 → Al2 fun k k1 => q0h.L2 k k1 (a ++ t) (m : Int) (a.length : Int) = some (((m + 5 * t.length : Nat) : Int), a ++ mkA t.length m)
  | [], a, m, h1, h2 => Al2.succ (Al2.now fun k k1 => by
    simp only [q0h.L2_eq, List.append_nil, at_end (Nat.lt_irrefl _), q0d, List.length_nil, Nat.mul_zero, Nat.add_zero, mkA])
  | x :: t, a, m, h1, h2 => by
    rw [List.length_cons] at h1 h2
    have hi : a.length < (a ++ x :: t).length := by simp
    have hS : (a ++ x :: t).length ≤ 4611686018427387904 := by simp only [List.length_append, List.length_cons]; omega
    obtain ⟨c1, c2, c3, c4⟩ := q66 hi hS
    have lt : ∀ y : Aff, decide ((a.length : Int) < ((a ++ y :: t).length : Int)) = true := fun y => decide_eq_true (by simp only [List.length_append, List.length_cons]; omega)
    let y : Aff := (mT m, (((m + 1 : Nat) : Int).tmod 3 == 0), mT (m + 2), mT (m + 3), mT (m + 4))
    have ih := q8t t (a ++ [y]) (m + 5) (by rw [List.length_append]; simp; omega) (by omega)
    have fin : ((m + 5 + 5 * t.length : Nat) : Int) = ((m + 5 * (x :: t).length : Nat) : Int) := by simp only [List.length_cons]; omega
    have j11 : Al3 fun k k1 k2 => q0h.J11 k k1 k2 (a ++ (mT m, (((m + 1 : Nat) : Int).tmod 3 == 0), mT (m + 2), mT (m + 3), x.2.2.2.2) :: t) ((m + 3 : Nat) : Int) (a.length : Int) = some (((m + 5 * (x :: t).length : Nat) : Int), a ++ mkA (x :: t).length m) := Al3.succ ((ih.fst.and (q4t (m + 4) (by omega)).thd).mono fun k k1 k2 ⟨e, e1⟩ => by
      simp only [q0h.J11_eq, q75 (m + 3) (by omega), q75 (m + 3 + 1) (by omega), e1, Option.bind_some, c2, c3, lt, Bool.and_self, q08, set_mid, q8q]
      simp only [w64, c4]
      rw [show a ++ (mT m, (((m + 1 : Nat) : Int).tmod 3 == 0), mT (m + 2), mT (m + 3), mT (m + 4)) :: t = a ++ [y] ++ t by simp [y], show ((a.length + 1 : Nat) : Int) = ((a ++ [y]).length : Int) by simp, show m + 3 + 1 + 1 = m + 5 by omega, e, fin]
      simp only [List.length_cons, mkA, List.append_assoc, List.cons_append, List.nil_append]
      rfl)
    have j7 : Al3 fun k k1 k2 => q0h.J7 k k1 k2 (a ++ (mT m, (((m + 1 : Nat) : Int).tmod 3 == 0), x.2.2) :: t) ((m + 1 : Nat) : Int) (a.length : Int) = some (((m + 5 * (x :: t).length : Nat) : Int), a ++ mkA (x :: t).length m) := Al3.succ (((j11.and (q4t (m + 2) (by omega)).thd).and (q4t (m + 3) (by omega)).thd).mono fun k k1 k2 ⟨⟨e, e1⟩, e2⟩ => by
      simp only [q0h.J7_eq, q75 (m + 1) (by omega), q75 (m + 1 + 1) (by omega), show m + 1 + 1 = m + 2 from rfl, show m + 2 + 1 = m + 3 from rfl, e1, e2, Option.bind_some, c2, c3, lt, Bool.and_self, q08, set_mid, q8q]
      exact e)
    refine Al2.succ (((q4t m (by omega)).snd.and j7.in2).mono fun k k1 ⟨e1, e3⟩ => ?_)
    simp only [q0h.L2_eq, c1, c2, c3, Bool.and_self, q08, e1, Option.bind_some, set_mid, q8q, q75 m (by omega), lt, show decide ((3 : Int) ≠ 0) = true from rfl]
    exact e3
noncomputable def qss (b : Book) (m : Nat) : Book := (mkA b.1.length m, mkE b.2.length (m + 5 * b.1.length))
theorem q8u (b : Book) (m : Nat) (h1 : b.1.length ≤ 1000000000) (h2 : b.2.length ≤ 1000000000) (hm : m ≤ 1000000000) : Al fun k => q36.f k b (m : Int) = some (((m + 5 * b.1.length + 2 * b.2.length : Nat) : Int), qss b m) :=
  ((q8t b.1 [] m (by simp; omega) (by omega)).diag.and (q8s b.2 [] (m + 5 * b.1.length) (by simp; omega) (by omega)).diag).mono fun k ⟨e1, e2⟩ => by
    simp only [List.nil_append, List.length_nil] at e1 e2
    simp only [q36.f_eq, q0h.f_eq, q0m.f_eq]
    rw [show (0 : Int) = ((0 : Nat) : Int) from rfl, e1, Option.bind_some, e2]
    rfl
theorem qf7 : ∀ (n m : Nat), (mkA n m).length = n
  | 0, _ => rfl
  | n + 1, m => by rw [mkA, List.length_cons, qf7]
theorem qf8 : ∀ (n m : Nat), (mkE n m).length = n
  | 0, _ => rfl
  | n + 1, m => by rw [mkE, List.length_cons, qf8]
theorem q8v : ∀ (n : Nat) (a : List En) (m : Nat), a.length + n ≤ 1099511627776 → m + 2 * n ≤ 1099511627776 → Al2 fun k k1 => q15.L2 k k1 (a ++ mkE n m) (m : Int) (a.length : Int) = some ((m + 2 * n : Nat) : Int)
  | 0, a, m, h1, h2 => Al2.succ (Al2.now fun k k1 => by
    simp only [q15.L2_eq, mkE, List.append_nil, at_end (Nat.lt_irrefl _), q0d, Nat.mul_zero, Nat.add_zero])
  | n + 1, a, m, h1, h2 => by
    have hi : a.length < (a ++ mkE (n + 1) m).length := by simp [mkE]
    obtain ⟨c1, c2, c3, c4⟩ := q66 hi (by simp only [List.length_append, qf8]; omega)
    have ih := q8v n (a ++ [(mT m, mT (m + 1))]) (m + 2) (by rw [List.length_append]; simp; omega) (by omega)
    refine Al2.succ ((((q4t m (by omega)).snd.and (q4t (m + 1) (by omega)).snd).and ih).mono fun k k1 ⟨⟨e1, e2⟩, e3⟩ => ?_)
    simp only [q15.L2_eq, c1, c2, c3, Bool.and_self, q08, e1, Option.bind_some, q75 m (by omega), q75 (m + 1) (by omega), e2]
    simp only [mkE, q8q, beq_self_eq_true, Bool.not_true, q0d]
    simp only [w64, c4]
    rw [show a ++ (mT m, mT (m + 1)) :: mkE n (m + 2) = a ++ [(mT m, mT (m + 1))] ++ mkE n (m + 2) by simp, show ((a.length + 1 : Nat) : Int) = ((a ++ [(mT m, mT (m + 1))]).length : Int) by simp, show m + 1 + 1 = m + 2 from rfl, e3]
    rw [show m + 2 + 2 * n = m + 2 * (n + 1) by omega]
theorem q8w : ∀ (n : Nat) (a : List Aff) (m : Nat), a.length + n ≤ 1099511627776 → m + 5 * n ≤ 1099511627776 → Al2 fun k k1 => q14.L2 k k1 (a ++ mkA n m) (m : Int) (a.length : Int) = some ((m + 5 * n : Nat) : Int)
  | 0, a, m, h1, h2 => Al2.succ (Al2.now fun k k1 => by
    simp only [q14.L2_eq, mkA, List.append_nil, at_end (Nat.lt_irrefl _), q0d, Nat.mul_zero, Nat.add_zero])
  | n + 1, a, m, h1, h2 => by
    have hi : a.length < (a ++ mkA (n + 1) m).length := by simp [mkA]
    obtain ⟨c1, c2, c3, c4⟩ := q66 hi (by simp only [List.length_append, qf7]; omega)
    have ih := q8w n (a ++ [(mT m, (((m + 1 : Nat) : Int).tmod 3 == 0), mT (m + 2), mT (m + 3), mT (m + 4))]) (m + 5) (by rw [List.length_append]; simp; omega) (by omega)
    refine Al2.succ ((((q4t m (by omega)).snd.and (q4t (m + 2) (by omega)).snd).and (((q4t (m + 3) (by omega)).snd.and (q4t (m + 4) (by omega)).snd).and ih)).mono fun k k1 ⟨⟨e1, e2⟩, ⟨e3, e4⟩, e5⟩ => ?_)
    simp only [q14.L2_eq, c1, c2, c3, Bool.and_self, q08, e1, Option.bind_some, q75 m (by omega), q75 (m + 1) (by omega), show m + 1 + 1 = m + 2 from rfl, q75 (m + 2) (by omega), show m + 2 + 1 = m + 3 from rfl, q75 (m + 3) (by omega), show m + 3 + 1 = m + 4 from rfl, q75 (m + 4) (by omega), show m + 4 + 1 = m + 5 from rfl, e2, e3, e4, show decide ((3 : Int) ≠ 0) = true from rfl]
    simp only [mkA, q8q, beq_self_eq_true, Bool.not_true, q0d]
    simp only [w64, c4]
    rw [show a ++ (mT m, (((m + 1 : Nat) : Int).tmod 3 == 0), mT (m + 2), mT (m + 3), mT (m + 4)) :: mkA n (m + 5) = a ++ [(mT m, (((m + 1 : Nat) : Int).tmod 3 == 0), mT (m + 2), mT (m + 3), mT (m + 4))] ++ mkA n (m + 5) by simp, show ((a.length + 1 : Nat) : Int) = ((a ++ [((mT m, (((m + 1 : Nat) : Int).tmod 3 == 0), mT (m + 2), mT (m + 3), mT (m + 4)) : Aff)]).length : Int) by simp, e5]
    rw [show m + 5 + 5 * n = m + 5 * (n + 1) by omega]
end Go.Proofs.YtnjdoinlnbjedaaGreatDoor.Rf
end

section
/- What an argument of the laws is good for. -/
namespace Go.Proofs.YtnjdoinlnbjedaaGreatDoor.Rf
open Go Go.RowKit
set_option linter.unusedVariables false
set_option linter.unusedSimpArgs false
theorem qq9 {a : Aff} (h : q73 (.st (.pair .str (.pair .bool (.pair .str (.pair .str .str))))) a) : bgA a := ⟨h.1, h.2.2.1, h.2.2.2.1, h.2.2.2.2⟩
theorem qqa {e : En} (h : q73 (.st (.pair .str .str)) e) : bgE e := h
theorem qnj {b : Book} (h : q73 (.st (.pair (.row (.st (.pair .str (.pair .bool (.pair .str (.pair .str .str)))))) (.row (.st (.pair .str .str))))) b) : bgB b :=
  ⟨⟨h.1.1, fun a ha => qq9 (h.1.2 a ha)⟩, h.2.1, fun e he => qqa (h.2.2 e he)⟩
end Go.Proofs.YtnjdoinlnbjedaaGreatDoor.Rf
end

section
/- Marks in a delta, and that they are found again. -/
namespace Go.Proofs.YtnjdoinlnbjedaaGreatDoor.Rf
open Go Go.RowKit
set_option linter.unusedVariables false
set_option linter.unusedSimpArgs false
noncomputable def qs7 (d : Delta) (m : Nat) : Delta := (mkS d.1.length m, mkE d.2.1.length (m + d.1.length), d.2.2.1, mkA d.2.2.2.length (m + d.1.length + 2 * d.2.1.length))
theorem qg7 (d : Delta) (m : Nat) (h1 : d.1.length ≤ 1000000000) (h2 : d.2.1.length ≤ 1000000000) (h3 : d.2.2.2.length ≤ 1000000000) (hm : m ≤ 100000000000) : Al fun k => q3j.f k d (m : Int) = some (((m + d.1.length + 2 * d.2.1.length + 5 * d.2.2.2.length : Nat) : Int), qs7 d m) :=
  (((qa3 d.1 [] m (by simp; omega) (by omega)).diag.and (q8s d.2.1 [] (m + d.1.length) (by simp; omega) (by omega)).diag).and (q8t d.2.2.2 [] (m + d.1.length + 2 * d.2.1.length) (by simp; omega) (by omega)).diag).mono fun k ⟨⟨e0, e1⟩, e2⟩ => by
    simp only [List.nil_append, List.length_nil] at e0 e1 e2
    simp only [q3j.f_eq, q0h.f_eq, q0m.f_eq, q18.f_eq]
    rw [show (0 : Int) = ((0 : Nat) : Int) from rfl, e0, Option.bind_some, e1, Option.bind_some, e2]
    rfl
end Go.Proofs.YtnjdoinlnbjedaaGreatDoor.Rf
end

section
/- The laws' words on releases: sizes, copies, equals, marks. -/
namespace Go.Proofs.YtnjdoinlnbjedaaGreatDoor.Rf
open Go Go.RowKit
set_option linter.unusedVariables false
set_option linter.unusedSimpArgs false
abbrev qta : Ty := .st (.pair (.row (.st (.pair .str (.pair .bool (.pair .str (.pair .str .str)))))) (.row (.st (.pair .str .str))))
def lnD (d : Delta) : Prop := d.1.length ≤ 1048576 ∧ d.2.1.length ≤ 1048576 ∧ d.2.2.2.length ≤ 1048576
theorem qnk {b : Book} (h : qgb b ≤ 1048576) : b.1.length ≤ 1048576 ∧ b.2.length ≤ 1048576 := by unfold qgb qhy qhz at h; omega
theorem qa4 (r : Release) (h : lnD r.2.1) : Al fun k => q2q.f k r r = some true := by
  unfold lnD at h
  refine (qi2 r.2.1 (by unfold Sm; omega) (by unfold Sm; omega) (by unfold Sm; omega)).mono fun k e => ?_
  simp only [q2q.f_eq, bne_self_eq_false, q0d, e, Option.bind_some, Bool.not_true, beq_self_eq_true]
def nD (d : Delta) : Nat := d.1.length + 2 * d.2.1.length + 5 * d.2.2.2.length
noncomputable def qtb (r : Release) (m : Nat) : Release := (r.1, qs7 r.2.1 m, r.2.2)
theorem qa5 (r : Release) (m : Nat) (h : lnD r.2.1) (hm : m ≤ 100000000000) : Al fun k => q2e.f k r (m : Int) = some (((m + nD r.2.1 : Nat) : Int), qtb r m) := by
  unfold lnD at h
  refine (qg7 r.2.1 m (by omega) (by omega) (by omega) hm).mono fun k e => ?_
  rw [q2e.f_eq, e, Option.bind_some]
  simp only [nD, ← Nat.add_assoc]
  rfl
end Go.Proofs.YtnjdoinlnbjedaaGreatDoor.Rf
end
