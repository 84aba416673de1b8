import Derived.Test.YtjfkeknnjjlepaaGreatDoorK3

section
namespace Go.Proofs.YtjfkeknnjjlepaaGreatDoor.Rf
open Go Go.RowKit
set_option linter.unusedVariables false
noncomputable section
def q36.C (k : Nat) : CEs := []
abbrev q36.ps : List Par := [⟨t34, .rd⟩]
abbrev q36.rs : List Res := [⟨t141, .ro, true⟩]
def q36.H : q4u := [(3, [(0, .ro)])]
def q36.F := q4v E q36.C q36.H Tryz.f73 q36.ps q36.rs
def q36.J3 (k : Nat) (x0 : List Int) : Option (List Int × Int) := atJ E q36.C q36.H Tryz.f73 q36.ps q36.rs [true, true] 0 [] k (sh 11 [(0, .d t34 x0 .ro)])
def q36.f (k : Nat) (x0 : List Int) : Option (List Int × Int) := q36.F k x0
theorem q36.f_eq (k : Nat) (x0 : List Int) : q36.f k x0 = ifb (decide ((x0.length : Int) > (2000 : Int))) (ifb (decide (0 ≤ (0 : Int)) && (decide ((0 : Int) ≤ (2000 : Int)) && decide ((2000 : Int) ≤ (x0.length : Int)))) (q36.J3 k ((x0.take (2000 : Int).toNat).drop (0 : Int).toNat)) (none)) (q36.J3 k x0) := by kernel_rfl
theorem q36.J3_eq (k : Nat) (x0 : List Int) : q36.J3 (k + 1) x0 = some (x0, (0 : Int)) := by kernel_rfl
abbrev q36.e (k : Nat) : FuncId × CE := (73, ⟨q36.ps, q36.rs, q36.F k⟩)
theorem q36.q (k : Nat) : Qs (q36.e k) := qq (C := q36.C) (fun k => .nil) k
def q0u.C (k : Nat) : CEs := []
abbrev q0u.ps : List Par := [⟨t141, .bx .ro⟩, ⟨(.int .i64), .rd⟩]
abbrev q0u.rs : List Res := [⟨(.int .i64), .ro, false⟩]
def q0u.H : q4u := [(8, [(0, .ro), (1, .ro), (6, .ro)])]
def q0u.F := q4v E q0u.C q0u.H Tryz.f117 q0u.ps q0u.rs
def q0u.J8 (k : Nat) (x0 : List Int × Int) (x1 : Int) (x6 : Int) : Option (Int × (List Int × Int)) := atJ E q0u.C q0u.H Tryz.f117 q0u.ps q0u.rs [true, true, true, true, true, true] 0 [] k (sh 99 [(0, .box t141 x0 .ro none), (1, .d (.int .i64) x1 .ro), (6, .d (.int .i64) x6 .ro)])
def q0u.f (k : Nat) (x0 : List Int × Int) (x1 : Int) : Option (Int × (List Int × Int)) := q0u.F k (x0, x1)
theorem q0u.f_eq (k : Nat) (x0 : List Int × Int) (x1 : Int) : q0u.f k x0 x1 = ifb (decide (x1 < (1 : Int))) (some ((0 : Int), (x0.1, (w64 (x0.2 + 1))))) (ifb ((x0.1.length : Int) == (0 : Int)) (some ((0 : Int), (x0.1, (w64 (x0.2 + 1))))) (ifb (decide ((w64 ((w64 (x0.2 + 1)) - 1)) < (x0.1.length : Int))) (ifb (decide (0 ≤ (w64 ((w64 (x0.2 + 1)) - 1))) && decide ((w64 ((w64 (x0.2 + 1)) - 1)) < (x0.1.length : Int))) (ifb (decide (x1 ≠ 0)) (some (((w64 (x0.1.getD ((w64 ((w64 (x0.2 + 1)) - 1)).toNat) (0 : Int))).tmod x1), (x0.1, (w64 (x0.2 + 1))))) (none)) (none)) (ifb (decide ((x0.1.length : Int) ≠ 0)) (ifb (decide (0 ≤ ((w64 ((w64 (x0.2 + 1)) - 1)).tmod (x0.1.length : Int))) && decide (((w64 ((w64 (x0.2 + 1)) - 1)).tmod (x0.1.length : Int)) < (x0.1.length : Int))) (ifb (decide ((x0.1.length : Int) ≠ 0)) (ifb (decide (0 ≤ ((w64 ((w64 ((w64 ((w64 (x0.2 + 1)) - 1)) * (7 : Int))) + (3 : Int))).tmod (x0.1.length : Int))) && decide (((w64 ((w64 ((w64 ((w64 (x0.2 + 1)) - 1)) * (7 : Int))) + (3 : Int))).tmod (x0.1.length : Int)) < (x0.1.length : Int))) (ifb (decide ((x0.1.length : Int) ≠ 0)) (q0u.J8 k (x0.1, (w64 (x0.2 + 1))) x1 (w64 ((w64 ((w64 ((w64 ((w64 (x0.1.getD (((w64 ((w64 (x0.2 + 1)) - 1)).tmod (x0.1.length : Int)).toNat) (0 : Int))) * (131 : Int))) + (w64 ((w64 (x0.1.getD (((w64 ((w64 ((w64 ((w64 (x0.2 + 1)) - 1)) * (7 : Int))) + (3 : Int))).tmod (x0.1.length : Int)).toNat) (0 : Int))) * (1117 : Int))))) + (w64 ((w64 ((w64 (x0.2 + 1)) - 1)) * (29 : Int))))) + (w64 ((w64 ((w64 ((w64 (x0.2 + 1)) - 1)).tdiv (x0.1.length : Int))) * (53 : Int)))))) (none)) (none)) (none)) (none)) (none)))) := by kernel_rfl
theorem q0u.J8_eq (k : Nat) (x0 : List Int × Int) (x1 : Int) (x6 : Int) : q0u.J8 (k + 1) x0 x1 x6 = ifb (decide ((64 : Int) ≠ 0)) (ifb (decide (x1 ≠ 0)) (some (((w64 ((BitVec.ofInt 64 x6 ^^^ BitVec.ofInt 64 (w64 (x6.tdiv (64 : Int)))).toNat)).tmod x1), x0)) (none)) (none) := by kernel_rfl
abbrev q0u.e (k : Nat) : FuncId × CE := (117, ⟨q0u.ps, q0u.rs, q0u.F k⟩)
theorem q0u.q (k : Nat) : Qs (q0u.e k) := qq (C := q0u.C) (fun k => .nil) k
def q3n.C (k : Nat) : CEs := [q0u.e k]
abbrev q3n.ps : List Par := [⟨t141, .bx .ro⟩, ⟨(.row .str), .rd⟩]
abbrev q3n.rs : List Res := [⟨.str, .ro, false⟩]
def q3n.F := q4v E q3n.C [] Tryz.f81 q3n.ps q3n.rs
def q3n.f (k : Nat) (x0 : List Int × Int) (x1 : List ByteArray) : Option (ByteArray × (List Int × Int)) := q3n.F k (x0, x1)
theorem q3n.f_eq (k : Nat) (x0 : List Int × Int) (x1 : List ByteArray) : q3n.f k x0 x1 = (q0u.f k x0 (x1.length : Int)).bind fun (r0 : Int × (List Int × Int)) => ifb (decide (0 ≤ r0.1) && decide (r0.1 < (x1.length : Int))) (some ((x1.getD r0.1.toNat bz), r0.2)) (none) := by kernel_rfl
abbrev q3n.e (k : Nat) : FuncId × CE := (81, ⟨q3n.ps, q3n.rs, q3n.F k⟩)
theorem q3n.q (k : Nat) : Qs (q3n.e k) := qq (C := q3n.C) (fun k => .c (q0u.q k) <| .nil) k
end
end Go.Proofs.YtjfkeknnjjlepaaGreatDoor.Rf
end
