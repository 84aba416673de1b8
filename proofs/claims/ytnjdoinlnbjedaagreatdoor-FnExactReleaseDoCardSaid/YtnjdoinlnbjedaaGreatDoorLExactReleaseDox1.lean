import Derived.Test.YtnjdoinlnbjedaaGreatDoorE1

section
namespace Go.Proofs.YtnjdoinlnbjedaaGreatDoor.Rf
open Go Go.RowKit
set_option linter.unusedVariables false
noncomputable section
def q1i.C (k : Nat) : CEs := []
abbrev q1i.ps : List Par := [⟨(.row .str), .rd⟩, ⟨(.int .i64), .rd⟩]
abbrev q1i.rs : List Res := [⟨(.int .i64), .ro, false⟩]
def q1i.H : q4o := [(5, [(0, .ro), (1, .ro), (5, .ro)])]
def q1i.F := q4p E q1i.C q1i.H Tryz.f129 q1i.ps q1i.rs
def q1i.L5 (k k1 : Nat) (x0 : List ByteArray) (x1 : Int) (x5 : Int) : Option (Int) := atL E q1i.C q1i.H Tryz.f129 q1i.ps q1i.rs [true, true, true, false, true, true] k [] k1 (sh 28 [(0, .d (.row .str) x0 .ro), (1, .d (.int .i64) x1 .ro), (5, .d (.int .i64) x5 .ro)])
def q1i.f (k : Nat) (x0 : List ByteArray) (x1 : Int) : Option (Int) := q1i.F k (x0, x1)
theorem q1i.f_eq (k : Nat) (x0 : List ByteArray) (x1 : Int) : q1i.f k x0 x1 = ifb (decide ((w64 (x1 - (x0.length : Int))) < 0)) (some (-1 : Int)) (q1i.L5 k k x0 (w64 (x1 - (x0.length : Int))) (0 : Int)) := by kernel_rfl
theorem q1i.L5_eq (k k1 : Nat) (x0 : List ByteArray) (x1 : Int) (x5 : Int) : q1i.L5 k (k1 + 1) x0 x1 x5 = ifb (decide (x5 < (x0.length : Int))) (ifb (decide (0 ≤ x5) && decide (x5 < (x0.length : Int))) (ifb (decide ((w64 (x1 - ((x0.getD x5.toNat bz).size : Int))) < 0)) (some (-1 : Int)) (q1i.L5 k k1 x0 (w64 (x1 - ((x0.getD x5.toNat bz).size : Int))) (w64 (x5 + 1)))) (none)) (some x1) := by kernel_rfl
abbrev q1i.e (k : Nat) : FuncId × CE := (129, ⟨q1i.ps, q1i.rs, q1i.F k⟩)
theorem q1i.q (k : Nat) : Qs (q1i.e k) := qq (C := q1i.C) (fun k => .nil) k
def q3u.C (k : Nat) : CEs := [q1j.e k, q1k.e k, q1i.e k]
abbrev q3u.ps : List Par := [⟨t26, .rd⟩, ⟨(.int .i64), .rd⟩]
abbrev q3u.rs : List Res := [⟨(.int .i64), .ro, false⟩]
def q3u.F := q4p E q3u.C [] Tryz.f76 q3u.ps q3u.rs
def q3u.f (k : Nat) (x0 : Delta) (x1 : Int) : Option (Int) := q3u.F k (x0, x1)
theorem q3u.f_eq (k : Nat) (x0 : Delta) (x1 : Int) : q3u.f k x0 x1 = (q1i.f k x0.1 x1).bind fun (r0 : Int) => ifb (decide (r0 < 0)) (some (-1 : Int)) ((q1k.f k x0.2.1 r0).bind fun (r1 : Int) => ifb (decide (r1 < 0)) (some (-1 : Int)) ((q1j.f k x0.2.2.2 r1).bind fun (r2 : Int) => ifb (decide (r2 < 0)) (some (-1 : Int)) (some r2))) := by kernel_rfl
abbrev q3u.e (k : Nat) : FuncId × CE := (76, ⟨q3u.ps, q3u.rs, q3u.F k⟩)
theorem q3u.q (k : Nat) : Qs (q3u.e k) := qq (C := q3u.C) (fun k => .c (q1j.q k) <| .c (q1k.q k) <| .c (q1i.q k) <| .nil) k
def q3k.C (k : Nat) : CEs := [q3u.e k]
abbrev q3k.ps : List Par := [⟨t28, .rd⟩, ⟨(.int .i64), .rd⟩]
abbrev q3k.rs : List Res := [⟨(.int .i64), .ro, false⟩]
def q3k.F := q4p E q3k.C [] Tryz.f29 q3k.ps q3k.rs
def q3k.f (k : Nat) (x0 : Release) (x1 : Int) : Option (Int) := q3k.F k (x0, x1)
theorem q3k.f_eq (k : Nat) (x0 : Release) (x1 : Int) : q3k.f k x0 x1 = (q3u.f k x0.2.1 x1).bind fun (r0 : Int) => ifb (decide (r0 < 0)) (some (-1 : Int)) (ifb (decide ((w64 (r0 - (x0.2.2.1.size : Int))) < 0)) (some (-1 : Int)) (ifb (decide ((w64 ((w64 (r0 - (x0.2.2.1.size : Int))) - (x0.2.2.2.size : Int))) < 0)) (some (-1 : Int)) (some (w64 ((w64 (r0 - (x0.2.2.1.size : Int))) - (x0.2.2.2.size : Int)))))) := by kernel_rfl
abbrev q3k.e (k : Nat) : FuncId × CE := (29, ⟨q3k.ps, q3k.rs, q3k.F k⟩)
theorem q3k.q (k : Nat) : Qs (q3k.e k) := qq (C := q3k.C) (fun k => .c (q3u.q k) <| .nil) k
def q1o.C (k : Nat) : CEs := []
abbrev q1o.ps : List Par := [⟨(.row .str), .rd⟩]
abbrev q1o.rs : List Res := [⟨(.row .str), (.own .ro), false⟩]
def q1o.H : q4o := [(3, [(0, .ro), (3, (.own .ro)), (4, .ro)])]
def q1o.F := q4p E q1o.C q1o.H Tryz.f130 q1o.ps q1o.rs
def q1o.L3 (k k1 : Nat) (x0 : List ByteArray) (x3 : List ByteArray) (x4 : Int) : Option (List ByteArray) := atL E q1o.C q1o.H Tryz.f130 q1o.ps q1o.rs [true, true, false, true, true] k [] k1 (sh 22 [(0, .d (.row .str) x0 .ro), (3, .d (.row .str) x3 (.own .ro)), (4, .d (.int .i64) x4 .ro)])
def q1o.f (k : Nat) (x0 : List ByteArray) : Option (List ByteArray) := q1o.F k x0
theorem q1o.f_eq (k : Nat) (x0 : List ByteArray) : q1o.f k x0 = ifb (decide (0 ≤ (x0.length : Int)) && (decide ((x0.length : Int) ≤ (x0.length : Int)) && decide ((x0.length : Int) * 16 ≤ (q0u : Int)))) (q1o.L3 k k x0 (List.replicate (x0.length : Int).toNat bz) (0 : Int)) (none) := by kernel_rfl
theorem q1o.L3_eq (k k1 : Nat) (x0 : List ByteArray) (x3 : List ByteArray) (x4 : Int) : q1o.L3 k (k1 + 1) x0 x3 x4 = ifb (decide (x4 < (x0.length : Int))) (ifb (decide (0 ≤ x4) && decide (x4 < (x0.length : Int))) (ifb (decide (0 ≤ x4) && decide (x4 < (x3.length : Int))) (q1o.L3 k k1 x0 (x3.set x4.toNat (x0.getD x4.toNat bz)) (w64 (x4 + 1))) (none)) (none)) (some x3) := by kernel_rfl
abbrev q1o.e (k : Nat) : FuncId × CE := (130, ⟨q1o.ps, q1o.rs, q1o.F k⟩)
theorem q1o.q (k : Nat) : Qs (q1o.e k) := qq (C := q1o.C) (fun k => .nil) k
def q4c.C (k : Nat) : CEs := [q1p.e k, q1q.e k, q1o.e k]
abbrev q4c.ps : List Par := [⟨t26, .rd⟩]
abbrev q4c.rs : List Res := [⟨t26, (.pr (.own .ro) (.pr (.own .ro) (.pr .ro (.own .ro)))), false⟩]
def q4c.F := q4p E q4c.C [] Tryz.f77 q4c.ps q4c.rs
def q4c.f (k : Nat) (x0 : Delta) : Option Delta := q4c.F k x0
theorem q4c.f_eq (k : Nat) (x0 : Delta) : q4c.f k x0 = (q1o.f k x0.1).bind fun (r0 : List ByteArray) => (q1q.f k x0.2.1).bind fun (r1 : List En) => (q1p.f k x0.2.2.2).bind fun (r2 : List Aff) => some (r0, r1, x0.2.2.1, r2) := by kernel_rfl
abbrev q4c.e (k : Nat) : FuncId × CE := (77, ⟨q4c.ps, q4c.rs, q4c.F k⟩)
theorem q4c.q (k : Nat) : Qs (q4c.e k) := qq (C := q4c.C) (fun k => .c (q1p.q k) <| .c (q1q.q k) <| .c (q1o.q k) <| .nil) k
def q33.C (k : Nat) : CEs := [q4c.e k]
abbrev q33.ps : List Par := [⟨t28, .rd⟩]
abbrev q33.rs : List Res := [⟨t28, (.pr .ro (.pr (.pr (.own .ro) (.pr (.own .ro) (.pr .ro (.own .ro)))) .ro)), false⟩]
def q33.F := q4p E q33.C [] Tryz.f30 q33.ps q33.rs
def q33.f (k : Nat) (x0 : Release) : Option Release := q33.F k x0
theorem q33.f_eq (k : Nat) (x0 : Release) : q33.f k x0 = (q4c.f k x0.2.1).bind fun (r0 : Delta) => some (x0.1, r0, x0.2.2.1, x0.2.2.2) := by kernel_rfl
abbrev q33.e (k : Nat) : FuncId × CE := (30, ⟨q33.ps, q33.rs, q33.F k⟩)
theorem q33.q (k : Nat) : Qs (q33.e k) := qq (C := q33.C) (fun k => .c (q4c.q k) <| .nil) k
end
end Go.Proofs.YtnjdoinlnbjedaaGreatDoor.Rf
end
